
/- Walks of law 08: WalkRules: the rule. -/
import Derived.Test.YtdodkhhlbjamhaaWlU
import Derived.Test.YtdodkhhlbjamhaaWlG
import Derived.Laws.StructEq
namespace Go.Proofs.Ytdodkhhlbjamhaa
open Go.RowKit Pm
/-- What the rule writes. -/
def rlX (z ab rb : Nat) (k : Nat) (t : TypeId) : Prop := (k = ab ∧ t = 22) ∨ (k = rb ∧ t = 4) ∨ (z ≤ k ∧ t = 9)
/-- Of these, the list's row. -/
def rlS (z : Nat) (k : Nat) (t : TypeId) : Prop := z ≤ k ∧ t = 9
/-- Its box. -/
def rlA (ab : Nat) (k : Nat) (t : TypeId) : Prop := k = ab ∧ t = 22
/-- The flag. -/
def rlB (rb : Nat) (k : Nat) (t : TypeId) : Prop := k = rb ∧ t = 4
/-- What it answers. -/
def rlF (p q r : Int × Bool) : Int × Bool := if q = r ∨ p = r then q else r
theorem own_keepX {Ex : Nat → TypeId → Prop} {A B : World} {base size n : Nat} {e : TypeId} {v : Value} {xs : List Value} (h : A.ownsRow base e size v n xs) (hk : KeepX Ex A B) (hn : ∀ k, base ≤ k → ¬ Ex k e) : B.ownsRow base e size v n xs := by
  obtain ⟨h1, h2⟩ := h
  refine ⟨h1, h2.imp id ?_⟩
  rintro ⟨g, cap, cur, h3, h4, h5, h6⟩
  exact ⟨g, cap, cur, h3, h4, hk.row h5 (hn g h4), h6⟩
theorem KeepX.grown {Ex : Nat → TypeId → Prop} {A B : World} {base size n : Nat} {e : TypeId} {v : Value} {xs : List Value} (hown : A.ownsRow base e size v n xs) (hg : A.grownBy B v.ownBlock) (he : ∀ k, base ≤ k → Ex k e) : KeepX Ex A B := by
  refine ⟨hg.1, hg.2, hg.3, hg.size, fun k o ho ht => ?_⟩
  refine (hg.block k (Array.getElem?_eq_some_iff.1 ho).1 (fun e' => ?_)).trans ho
  rcases hown.2 with ⟨rfl, _⟩ | ⟨g, cap, cur, rfl, h4, hgb, _⟩
  · simp [Value.ownBlock] at e'
  · obtain rfl : k = g := by simpa [Value.ownBlock] using e'
    rw [hgb] at ho
    cases ho
    exact ht _ _ _ rfl (he _ h4)
/-- Between two calls of the rule. -/
structure RlI (z ab rb : Nat) (H : List (Nat × Obj)) (ts : List (Tr Int)) (xs : List ByteArray) (W : World) : Prop where
  l : ∃ v, Boxed W ab 22 v ∧ W.ownsRow z 9 1 v xs.length (strV xs)
  r : Boxed W rb 4 (.bool true)
  f : Facts H W
  t : ∀ t ∈ ts, AtI W t
theorem RlI.keepX {Ex : Nat → TypeId → Prop} {z ab rb : Nat} {H : List (Nat × Obj)} {ts : List (Tr Int)} {xs : List ByteArray} {A B : World} (h : RlI z ab rb H ts xs A) (hk : KeepX Ex A B)
    (h1 : ¬ Ex ab 22) (h2 : ¬ Ex rb 4) (h3 : ∀ k, ¬ Ex k 9) (h4 : ∀ p ∈ H, ∀ c t fr, p.2 = .cells c t fr → ¬ Ex p.1 t) (h5 : ∀ k, ¬ Ex k 77) : RlI z ab rb H ts xs B := by
  obtain ⟨v, hv, ho⟩ := h.l
  exact ⟨⟨v, hk.row hv h1, own_keepX ho hk (fun k _ => h3 k)⟩, hk.row h.r h2, h.f.keepX hk h4, fun t ht => (h.t t ht).keepX hk h5⟩
theorem RlI.below {z ab rb : Nat} {H : List (Nat × Obj)} {ts : List (Tr Int)} {xs : List ByteArray} {A B : World} (h : RlI z ab rb H ts xs A) (hb : Below A.heap.size A B) : RlI z ab rb H ts xs B :=
  h.keepX (Ex := fun _ _ => False) (KeepX.ofBelow hb) id id (fun _ => id) (fun _ _ _ _ _ _ => id) (fun _ => id)
theorem rlX_no {z ab rb k : Nat} {t : TypeId} (h1 : t ≠ 22) (h2 : t ≠ 4) (h3 : t ≠ 9) : ¬ rlX z ab rb k t := by
  rintro (h | h | h)
  · exact h1 h.2
  · exact h2 h.2
  · exact h3 h.2
set_option maxRecDepth 100000 in
set_option maxHeartbeats 4000000 in
theorem rl_call (z ab rb cs ca co : Nat) (pk : Value) (s a o : Tr Int) (H : List (Nat × Obj)) (v : Int) (pb qb rb' : Bool) (xs : List ByteArray) (key : ByteArray) (w : World)
    (hI : RlI z ab rb H [s, a, o] xs w) (hx : xs.length ≤ 2147483648) (hz : z ≤ w.heap.size)
    (hs : (cs, Obj.cells #[.pointer (pa s)] 29 (0, 0)) ∈ H) (ha : (ca, Obj.cells #[.pointer (pa a)] 29 (0, 0)) ∈ H) (ho : (co, Obj.cells #[.pointer (pa o)] 29 (0, 0)) ∈ H)
    (hH : ∀ p ∈ H, ∃ c fr, p.2 = .cells c 29 fr)
    (ps : prtTI s key = (if pb = true then v else 0, pb)) (qa : prtTI a key = (if qb = true then v else 0, qb)) (ro : prtTI o key = (if rb' = true then v else 0, rb')) :
    Calls Try.prog 20 #[.string key, prtVI (prtTI s key), prtVI (prtTI a key), prtVI (prtTI o key), .pointer (some ⟨ab, 0, none⟩), .pointer (some ⟨rb, 0, none⟩), .pointer (some ⟨cs, 0, none⟩), .pointer (some ⟨ca, 0, none⟩), .pointer (some ⟨co, 0, none⟩), pk] w fun e w' =>
      e = .returned (.tuple #[.int .i64 (rlF (prtTI s key) (prtTI a key) (prtTI o key)).1, .bool (rlF (prtTI s key) (prtTI a key) (prtTI o key)).2]) ∧ RlI z ab rb H [s, a, o] (xs ++ [key]) w' ∧ KeepX (rlX z ab rb) w w' := by
  have PS : Hid (prtTI s key = (if pb = true then v else 0, pb)) := Lib.hid ps
  have QA : Hid (prtTI a key = (if qb = true then v else 0, qb)) := Lib.hid qa
  have RO : Hid (prtTI o key = (if rb' = true then v else 0, rb')) := Lib.hid ro
  rw [ps, qa, ro]
  obtain ⟨p1, hp1⟩ : ∃ x, (if pb = true then v else 0) = x := ⟨_, rfl⟩
  obtain ⟨q1, hq1⟩ : ∃ x, (if qb = true then v else 0) = x := ⟨_, rfl⟩
  obtain ⟨r1, hr1⟩ : ∃ x, (if rb' = true then v else 0) = x := ⟨_, rfl⟩
  rw [hp1] at PS ⊢
  rw [hq1] at QA ⊢
  rw [hr1] at RO ⊢
  have HP := Lib.hid (And.intro hp1 (And.intro hq1 hr1))
  clear ps qa ro hp1 hq1 hr1
  unfold prtVI
  dsimp only
  obtain ⟨v0, hv0, hown⟩ := hI.l
  obtain ⟨la, lc, rfl⟩ := own_shape1 hown
  obtain ⟨n, hn⟩ : ∃ n, xs.length = n := ⟨_, rfl⟩
  rw [hn] at hown hv0 hx
  have HN := Lib.hid hn
  obtain ⟨y, hy⟩ : ∃ y, w.heap.size = y := ⟨_, rfl⟩
  obtain ⟨w1, hW1⟩ : ∃ W1, allocs w [.cells #[.int .i64 p1, .bool pb] 33, .cells #[.int .i64 q1, .bool qb] 33, .cells #[.int .i64 r1, .bool rb'] 33] = W1 := ⟨_, rfl⟩
  have hb : Below w.heap.size w w1 := by rw [← hW1]; exact allocs_below _ _
  have hxx : ∀ i ob, [Obj.cells #[.int .i64 p1, .bool pb] 33, .cells #[.int .i64 q1, .bool qb] 33, .cells #[.int .i64 r1, .bool rb'] 33][i]? = some ob → w1.heap[y + i]? = some ob := fun i ob h => by have := allocs_get _ w i ob h; rw [hW1, hy] at this; exact this
  have G1 : Hid (Facts [(y, .cells #[.int .i64 p1, .bool pb] 33 (0, 0)), (y + 1, .cells #[.int .i64 q1, .bool qb] 33 (0, 0)), (y + 1 + 1, .cells #[.int .i64 r1, .bool rb'] 33 (0, 0))] w1) := Lib.hid (fun p hp => by
    simp only [List.mem_cons, List.not_mem_nil, or_false] at hp
    rcases hp with rfl | rfl | rfl
    · exact hxx 0 _ rfl
    · exact hxx 1 _ rfl
    · exact hxx 2 _ rfl)
  have hW : ((w.alloc (.cells #[.int .i64 p1, .bool pb] 33)).alloc (.cells #[.int .i64 q1, .bool qb] 33)).alloc (.cells #[.int .i64 r1, .bool rb'] 33) = w1 := hW1
  have k0 : w1.cell? ⟨ab, 0, none⟩ = some (.slice la n lc) := cell_of_one (boxStays hv0 hb)
  have OWN := Lib.hid (own_later hown hb (Nat.le_refl _))
  have I1 := Lib.hid (hI.below hb)
  have V1 := Lib.hid (boxStays hv0 hb)
  have K1 : Hid (KeepX (rlX z ab rb) w w1) := Lib.hid (KeepX.ofBelow hb)
  have ET := Lib.hid (ElemT.mk Try.underlying22 infoStr rfl)
  have hz1 : z ≤ w1.heap.size := by have := hb.size; omega
  have MEM := Lib.hid (And.intro hs (And.intro ha ho))
  have HH := Lib.hid hH
  clear hI hown hv0 hb hxx hW1 hn hs ha ho hH hz
  go_enter Try.func20, Try.ntmps20
  go_upto_region 1 with (fail)
  try rw [hW]
  go_upto_region 2 with (at_builtin; refine wpList_app rfl _ _ 22 22 rfl z 9 (.string ⟨#[]⟩) 1 16 ET.out (.slice la n lc) n (strV xs) rfl (own_later OWN.out (below_new w1 _) (Nat.le_refl _)) _ 1 [.string key] rfl (CellsAt.one w1 9 (.string key) rfl Try.underlying22) (by omega) (by omega) (by simp; omega) ?_; intro v3 w4 hown hgr _ _; obtain ⟨sa, sc, rfl⟩ := own_shape1 hown; have hkx := (KeepX.ofBelow (Ex := rlS z) (below_new w1 (.cells #[.string key] 9))).trans (KeepX.grown (Ex := rlS z) (own_later OWN.out (below_new w1 (.cells #[.string key] 9)) (Nat.le_refl _)) hgr (fun k h => ⟨h, rfl⟩)); have O4 := Lib.hid hown; have K4 := Lib.hid hkx; have V4 := Lib.hid (hkx.row V1.out (fun h => absurd h.2 (by decide))); have f4 := frozen_of_row _ ab 0 _ _ V4.out; have k4 := cell_of_one V4.out; clear hown hgr hkx)
  obtain ⟨w5, hw5⟩ : ∃ W, w4.setCell ⟨ab, 0, none⟩ (.slice sa (n + 1) sc) = W := ⟨_, rfl⟩
  rw [hw5]
  have hk5 : KeepX (rlA ab) w4 w5 := by rw [← hw5]; exact KeepX.setRow (KeepX.refl _) V4.out ⟨rfl, rfl⟩ 0 _
  have V5 : Boxed w5 ab 22 (.slice sa (n + 1) sc) := by rw [← hw5]; exact Boxed.set (t := 22) (v := .slice la n lc) (.slice sa (n + 1) sc) V4.out
  have K5 : Hid (KeepX (rlX z ab rb) w w5) := Lib.hid ((K1.out.trans (K4.out.monoX fun k t h => Or.inr (Or.inr h))).trans (hk5.monoX fun k t h => Or.inl h))
  have i4 := I1.out
  have nh : ∀ (Ex : Nat → TypeId → Prop), (∀ k t, Ex k t → t = 9 ∨ t = 22) → (∀ p ∈ H, ∀ c t fr, p.2 = .cells c t fr → ¬ Ex p.1 t) := fun Ex hE p hp c t fr e hx => by
    obtain ⟨c', fr', e'⟩ := HH.out p hp
    rw [e'] at e
    cases e
    rcases hE _ _ hx with h | h <;> exact absurd h (by decide)
  have I5 : Hid (RlI z ab rb H [s, a, o] (xs ++ [key]) w5) := Lib.hid
    ⟨⟨_, V5, by
        rw [show (xs ++ [key]).length = n + 1 by rw [List.length_append, HN.out]; rfl, show strV (xs ++ [key]) = strV xs ++ [.string key] by simp [strV]]
        exact own_keepX O4.out hk5 (fun k _ h => absurd h.2 (by decide))⟩,
      hk5.row (K4.out.row i4.r (fun h => absurd h.2 (by decide))) (fun h => absurd h.2 (by decide)),
      (i4.f.keepX K4.out (nh _ fun k t h => .inl h.2)).keepX hk5 (nh _ fun k t h => .inr h.2),
      fun t ht => ((i4.t t ht).keepX K4.out (fun k h => absurd h.2 (by decide))).keepX hk5 (fun k h => absurd h.2 (by decide))⟩
  have G5 : Hid (Facts [(y, .cells #[.int .i64 p1, .bool pb] 33 (0, 0)), (y + 1, .cells #[.int .i64 q1, .bool qb] 33 (0, 0)), (y + 1 + 1, .cells #[.int .i64 r1, .bool rb'] 33 (0, 0))] w5) := Lib.hid ((G1.out.keepX K4.out (by
      intro p hp c' t' fr' e
      simp only [List.mem_cons, List.not_mem_nil, or_false] at hp
      rcases hp with rfl | rfl | rfl <;> (cases e; exact fun h => absurd h.2 (by decide)))).keepX hk5 (by
      intro p hp c' t' fr' e
      simp only [List.mem_cons, List.not_mem_nil, or_false] at hp
      rcases hp with rfl | rfl | rfl <;> (cases e; exact fun h => absurd h.2 (by decide))))
  clear hw5 hk5 V5 i4 nh k0 hW f4 k4 V4 K4 O4 V1 G1 I1 K1 OWN
  have HC : Hid (Chain [w5] w5) := Lib.hid (Chain.one w5)
  refine wp_region_noPanic ?_
  refine region_tail (S := fun w' => Below w5.heap.size w5 w') [22] (by kernel_rfl) (Below.refl _ _).drew (fun hS => ?_)
  refine anyT_take (i := 0) (oi := ⟨some 21, _, _, _, _, _⟩) (v := ?_) rfl (by kernel_rfl) (by kernel_rfl) (by rfl) (fun _ _ _ h => h) (by kernel_rfl) (by kernel_rfl) (Or.inl ⟨by rfl, ?_⟩) hS ?_
  rotate_left 1
  · intro w' hB; have hd := (HC.out.to w5 (by simp)).trans (hB.mono (HC.out.to w5 (by simp)).size); have i6 := I5.out.below hd; have g6 := G5.out.below hd; have kr := cell_of_one i6.r; have k0 := row2 (g6 _ List.mem_cons_self); have k1 := row2 (g6 _ (List.mem_cons_of_mem _ List.mem_cons_self)); have k2 := row2 (g6 _ (List.mem_cons_of_mem _ (List.mem_cons_of_mem _ List.mem_cons_self))); have ks : _ = _ := i6.f.cell (t := 29) MEM.out.1; have ka : _ = _ := i6.f.cell (t := 29) MEM.out.2.1; have ko : _ = _ := i6.f.cell (t := 29) MEM.out.2.2; clear hd i6 g6; (go_simp <;> with_reducible rfl)
  try simp only [Act.put, List.setIfInBounds_toArray, List.set_cons_zero, List.set_cons_succ]
  refine anyT_take (i := 1) (oi := ⟨some 22, _, _, _, _, _⟩) (v := ?_) rfl (by kernel_rfl) (by kernel_rfl) (by rfl) (fun _ _ _ h => h) (by kernel_rfl) (by kernel_rfl) (Or.inl ⟨by rfl, ?_⟩) hS ?_
  rotate_left 1
  · intro w' hB; have hd := (HC.out.to w5 (by simp)).trans (hB.mono (HC.out.to w5 (by simp)).size); have i6 := I5.out.below hd; have g6 := G5.out.below hd; have kr := cell_of_one i6.r; have k0 := row2 (g6 _ List.mem_cons_self); have k1 := row2 (g6 _ (List.mem_cons_of_mem _ List.mem_cons_self)); have k2 := row2 (g6 _ (List.mem_cons_of_mem _ (List.mem_cons_of_mem _ List.mem_cons_self))); have ks : _ = _ := i6.f.cell (t := 29) MEM.out.1; have ka : _ = _ := i6.f.cell (t := 29) MEM.out.2.1; have ko : _ = _ := i6.f.cell (t := 29) MEM.out.2.2; clear hd i6 g6; (go_simp <;> with_reducible rfl)
  try simp only [Act.put, List.setIfInBounds_toArray, List.set_cons_zero, List.set_cons_succ]
  refine anyT_take (i := 2) (oi := ⟨some 23, _, _, _, _, _⟩) (v := ?_) rfl (by kernel_rfl) (by kernel_rfl) (by rfl) (fun _ _ _ h => h) (by kernel_rfl) (by kernel_rfl) (Or.inl ⟨by rfl, ?_⟩) hS ?_
  rotate_left 1
  · intro w' hB; have hd := (HC.out.to w5 (by simp)).trans (hB.mono (HC.out.to w5 (by simp)).size); have i6 := I5.out.below hd; have g6 := G5.out.below hd; have kr := cell_of_one i6.r; have k0 := row2 (g6 _ List.mem_cons_self); have k1 := row2 (g6 _ (List.mem_cons_of_mem _ List.mem_cons_self)); have k2 := row2 (g6 _ (List.mem_cons_of_mem _ (List.mem_cons_of_mem _ List.mem_cons_self))); have ks : _ = _ := i6.f.cell (t := 29) MEM.out.1; have ka : _ = _ := i6.f.cell (t := 29) MEM.out.2.1; have ko : _ = _ := i6.f.cell (t := 29) MEM.out.2.2; clear hd i6 g6; (go_simp <;> with_reducible rfl)
  try simp only [Act.put, List.setIfInBounds_toArray, List.set_cons_zero, List.set_cons_succ]
  refine anyT_take (i := 3) (oi := ⟨some 24, _, _, _, _, _⟩) (v := ?_) rfl (by kernel_rfl) (by kernel_rfl) (by rfl) (fun _ _ _ h => h) (by kernel_rfl) (by kernel_rfl) (Or.inl ⟨by rfl, ?_⟩) hS ?_
  rotate_left 1
  · intro w' hB; have hd := (HC.out.to w5 (by simp)).trans (hB.mono (HC.out.to w5 (by simp)).size); have i6 := I5.out.below hd; have g6 := G5.out.below hd; have kr := cell_of_one i6.r; have k0 := row2 (g6 _ List.mem_cons_self); have k1 := row2 (g6 _ (List.mem_cons_of_mem _ List.mem_cons_self)); have k2 := row2 (g6 _ (List.mem_cons_of_mem _ (List.mem_cons_of_mem _ List.mem_cons_self))); have ks : _ = _ := i6.f.cell (t := 29) MEM.out.1; have ka : _ = _ := i6.f.cell (t := 29) MEM.out.2.1; have ko : _ = _ := i6.f.cell (t := 29) MEM.out.2.2; clear hd i6 g6; (go_simp <;> with_reducible rfl)
  try simp only [Act.put, List.setIfInBounds_toArray, List.set_cons_zero, List.set_cons_succ]
  refine anyT_take (i := 4) (oi := ⟨some 25, _, _, _, _, _⟩) (v := ?_) rfl (by kernel_rfl) (by kernel_rfl) (by rfl) (fun _ _ _ h => h) (by kernel_rfl) (by kernel_rfl) (Or.inl ⟨by rfl, ?_⟩) hS ?_
  rotate_left 1
  · intro w' hB; have hd := (HC.out.to w5 (by simp)).trans (hB.mono (HC.out.to w5 (by simp)).size); have i6 := I5.out.below hd; have g6 := G5.out.below hd; have kr := cell_of_one i6.r; have k0 := row2 (g6 _ List.mem_cons_self); have k1 := row2 (g6 _ (List.mem_cons_of_mem _ List.mem_cons_self)); have k2 := row2 (g6 _ (List.mem_cons_of_mem _ (List.mem_cons_of_mem _ List.mem_cons_self))); have ks : _ = _ := i6.f.cell (t := 29) MEM.out.1; have ka : _ = _ := i6.f.cell (t := 29) MEM.out.2.1; have ko : _ = _ := i6.f.cell (t := 29) MEM.out.2.2; clear hd i6 g6; (go_simp <;> with_reducible rfl)
  try simp only [Act.put, List.setIfInBounds_toArray, List.set_cons_zero, List.set_cons_succ]
  refine anyT_ready (rs := [5]) (by kernel_rfl) (by kernel_rfl) (by simp) (AllReadyT.cons (o := ⟨some 26, _, _, _, _, _⟩) rfl (by rfl) (fun K hK => ?_) AllReadyT.nil)
  go_simp
  refine (wk_part s key _ ((I5.out.t s (by simp)).chain HC.out hS (by simp))).mono ?_
  rintro e w6 ⟨rfl, hb⟩
  refine hK.out _ _ (hS.trans (hb.mono hS.size)) (fun _ => ?_)
  clear hK K
  have hB := hS.trans (hb.mono hS.size)
  refine anyT_now hB ?_
  clear hS
  have hS := Below.refl w6.heap.size w6
  replace HC := Lib.hid (HC.out.push hB)
  rw [PS.out]
  unfold prtVI
  dsimp only
  clear hB hb
  try simp only [Act.put, List.setIfInBounds_toArray, List.set_cons_zero, List.set_cons_succ]
  refine anyT_take (i := 6) (oi := ⟨some 27, _, _, _, _, _⟩) (v := ?_) rfl (by kernel_rfl) (by kernel_rfl) (by rfl) (fun _ _ _ h => h) (by kernel_rfl) (by kernel_rfl) (Or.inl ⟨by rfl, ?_⟩) hS ?_
  rotate_left 1
  · intro w' hB; have hd := (HC.out.to w5 (by simp)).trans (hB.mono (HC.out.to w5 (by simp)).size); have i6 := I5.out.below hd; have g6 := G5.out.below hd; have kr := cell_of_one i6.r; have k0 := row2 (g6 _ List.mem_cons_self); have k1 := row2 (g6 _ (List.mem_cons_of_mem _ List.mem_cons_self)); have k2 := row2 (g6 _ (List.mem_cons_of_mem _ (List.mem_cons_of_mem _ List.mem_cons_self))); have ks : _ = _ := i6.f.cell (t := 29) MEM.out.1; have ka : _ = _ := i6.f.cell (t := 29) MEM.out.2.1; have ko : _ = _ := i6.f.cell (t := 29) MEM.out.2.2; clear hd i6 g6; (go_simp <;> with_reducible rfl)
  try simp only [Act.put, List.setIfInBounds_toArray, List.set_cons_zero, List.set_cons_succ]
  refine anyT_take (i := 7) (oi := ⟨some 28, _, _, _, _, _⟩) (v := ?_) rfl (by kernel_rfl) (by kernel_rfl) (by rfl) (fun _ _ _ h => h) (by kernel_rfl) (by kernel_rfl) (Or.inl ⟨by rfl, ?_⟩) hS ?_
  rotate_left 1
  · intro w' hB; have hd := (HC.out.to w5 (by simp)).trans (hB.mono (HC.out.to w5 (by simp)).size); have i6 := I5.out.below hd; have g6 := G5.out.below hd; have kr := cell_of_one i6.r; have k0 := row2 (g6 _ List.mem_cons_self); have k1 := row2 (g6 _ (List.mem_cons_of_mem _ List.mem_cons_self)); have k2 := row2 (g6 _ (List.mem_cons_of_mem _ (List.mem_cons_of_mem _ List.mem_cons_self))); have ks : _ = _ := i6.f.cell (t := 29) MEM.out.1; have ka : _ = _ := i6.f.cell (t := 29) MEM.out.2.1; have ko : _ = _ := i6.f.cell (t := 29) MEM.out.2.2; clear hd i6 g6; (go_simp <;> with_reducible rfl)
  try simp only [Act.put, List.setIfInBounds_toArray, List.set_cons_zero, List.set_cons_succ]
  refine anyT_take (i := 8) (oi := ⟨some 29, _, _, _, _, _⟩) (v := ?_) rfl (by kernel_rfl) (by kernel_rfl) (by rfl) (fun _ _ _ h => h) (by kernel_rfl) (by kernel_rfl) (Or.inl ⟨by rfl, ?_⟩) hS ?_
  rotate_left 1
  · intro w' hB; have hd := (HC.out.to w5 (by simp)).trans (hB.mono (HC.out.to w5 (by simp)).size); have i6 := I5.out.below hd; have g6 := G5.out.below hd; have kr := cell_of_one i6.r; have k0 := row2 (g6 _ List.mem_cons_self); have k1 := row2 (g6 _ (List.mem_cons_of_mem _ List.mem_cons_self)); have k2 := row2 (g6 _ (List.mem_cons_of_mem _ (List.mem_cons_of_mem _ List.mem_cons_self))); have ks : _ = _ := i6.f.cell (t := 29) MEM.out.1; have ka : _ = _ := i6.f.cell (t := 29) MEM.out.2.1; have ko : _ = _ := i6.f.cell (t := 29) MEM.out.2.2; clear hd i6 g6; (go_simp <;> with_reducible rfl)
  try simp only [Act.put, List.setIfInBounds_toArray, List.set_cons_zero, List.set_cons_succ]
  refine anyT_take (i := 9) (oi := ⟨some 30, _, _, _, _, _⟩) (v := ?_) rfl (by kernel_rfl) (by kernel_rfl) (by rfl) (fun _ _ _ h => h) (by kernel_rfl) (by kernel_rfl) (Or.inl ⟨by rfl, ?_⟩) hS ?_
  rotate_left 1
  · intro w' hB; have hd := (HC.out.to w5 (by simp)).trans (hB.mono (HC.out.to w5 (by simp)).size); have i6 := I5.out.below hd; have g6 := G5.out.below hd; have kr := cell_of_one i6.r; have k0 := row2 (g6 _ List.mem_cons_self); have k1 := row2 (g6 _ (List.mem_cons_of_mem _ List.mem_cons_self)); have k2 := row2 (g6 _ (List.mem_cons_of_mem _ (List.mem_cons_of_mem _ List.mem_cons_self))); have ks : _ = _ := i6.f.cell (t := 29) MEM.out.1; have ka : _ = _ := i6.f.cell (t := 29) MEM.out.2.1; have ko : _ = _ := i6.f.cell (t := 29) MEM.out.2.2; clear hd i6 g6; (go_simp <;> with_reducible rfl)
  try simp only [Act.put, List.setIfInBounds_toArray, List.set_cons_zero, List.set_cons_succ]
  refine anyT_take (i := 10) (oi := ⟨some 31, _, _, _, _, _⟩) (v := ?_) rfl (by kernel_rfl) (by kernel_rfl) (by rfl) (fun _ _ _ h => h) (by kernel_rfl) (by kernel_rfl) (Or.inl ⟨by rfl, ?_⟩) hS ?_
  rotate_left 1
  · intro w' hB; have hd := (HC.out.to w5 (by simp)).trans (hB.mono (HC.out.to w5 (by simp)).size); have i6 := I5.out.below hd; have g6 := G5.out.below hd; have kr := cell_of_one i6.r; have k0 := row2 (g6 _ List.mem_cons_self); have k1 := row2 (g6 _ (List.mem_cons_of_mem _ List.mem_cons_self)); have k2 := row2 (g6 _ (List.mem_cons_of_mem _ (List.mem_cons_of_mem _ List.mem_cons_self))); have ks : _ = _ := i6.f.cell (t := 29) MEM.out.1; have ka : _ = _ := i6.f.cell (t := 29) MEM.out.2.1; have ko : _ = _ := i6.f.cell (t := 29) MEM.out.2.2; clear hd i6 g6; (go_simp <;> with_reducible rfl)
  try simp only [Act.put, List.setIfInBounds_toArray, List.set_cons_zero, List.set_cons_succ]
  refine anyT_take (i := 11) (oi := ⟨some 32, _, _, _, _, _⟩) (v := ?_) rfl (by kernel_rfl) (by kernel_rfl) (by rfl) (fun _ _ _ h => h) (by kernel_rfl) (by kernel_rfl) (Or.inl ⟨by rfl, ?_⟩) hS ?_
  rotate_left 1
  · intro w' hB; have hd := (HC.out.to w5 (by simp)).trans (hB.mono (HC.out.to w5 (by simp)).size); have i6 := I5.out.below hd; have g6 := G5.out.below hd; have kr := cell_of_one i6.r; have k0 := row2 (g6 _ List.mem_cons_self); have k1 := row2 (g6 _ (List.mem_cons_of_mem _ List.mem_cons_self)); have k2 := row2 (g6 _ (List.mem_cons_of_mem _ (List.mem_cons_of_mem _ List.mem_cons_self))); have ks : _ = _ := i6.f.cell (t := 29) MEM.out.1; have ka : _ = _ := i6.f.cell (t := 29) MEM.out.2.1; have ko : _ = _ := i6.f.cell (t := 29) MEM.out.2.2; clear hd i6 g6; (go_simp <;> with_reducible rfl)
  try simp only [Act.put, List.setIfInBounds_toArray, List.set_cons_zero, List.set_cons_succ]
  refine anyT_ready (rs := [12]) (by kernel_rfl) (by kernel_rfl) (by simp) (AllReadyT.cons (o := ⟨some 33, _, _, _, _, _⟩) rfl (by rfl) (fun K hK => ?_) AllReadyT.nil)
  go_simp
  refine (wk_part a key _ ((I5.out.t a (by simp)).chain HC.out hS (by simp))).mono ?_
  rintro e w7 ⟨rfl, hb⟩
  refine hK.out _ _ (hS.trans (hb.mono hS.size)) (fun _ => ?_)
  clear hK K
  have hB := hS.trans (hb.mono hS.size)
  refine anyT_now hB ?_
  clear hS
  have hS := Below.refl w7.heap.size w7
  replace HC := Lib.hid (HC.out.push hB)
  rw [QA.out]
  unfold prtVI
  dsimp only
  clear hB hb
  try simp only [Act.put, List.setIfInBounds_toArray, List.set_cons_zero, List.set_cons_succ]
  refine anyT_take (i := 13) (oi := ⟨some 34, _, _, _, _, _⟩) (v := ?_) rfl (by kernel_rfl) (by kernel_rfl) (by rfl) (fun _ _ _ h => h) (by kernel_rfl) (by kernel_rfl) (Or.inl ⟨by rfl, ?_⟩) hS ?_
  rotate_left 1
  · intro w' hB; have hd := (HC.out.to w5 (by simp)).trans (hB.mono (HC.out.to w5 (by simp)).size); have i6 := I5.out.below hd; have g6 := G5.out.below hd; have kr := cell_of_one i6.r; have k0 := row2 (g6 _ List.mem_cons_self); have k1 := row2 (g6 _ (List.mem_cons_of_mem _ List.mem_cons_self)); have k2 := row2 (g6 _ (List.mem_cons_of_mem _ (List.mem_cons_of_mem _ List.mem_cons_self))); have ks : _ = _ := i6.f.cell (t := 29) MEM.out.1; have ka : _ = _ := i6.f.cell (t := 29) MEM.out.2.1; have ko : _ = _ := i6.f.cell (t := 29) MEM.out.2.2; clear hd i6 g6; (go_simp <;> with_reducible rfl)
  try simp only [Act.put, List.setIfInBounds_toArray, List.set_cons_zero, List.set_cons_succ]
  refine anyT_take (i := 14) (oi := ⟨some 35, _, _, _, _, _⟩) (v := ?_) rfl (by kernel_rfl) (by kernel_rfl) (by rfl) (fun _ _ _ h => h) (by kernel_rfl) (by kernel_rfl) (Or.inl ⟨by rfl, ?_⟩) hS ?_
  rotate_left 1
  · intro w' hB; have hd := (HC.out.to w5 (by simp)).trans (hB.mono (HC.out.to w5 (by simp)).size); have i6 := I5.out.below hd; have g6 := G5.out.below hd; have kr := cell_of_one i6.r; have k0 := row2 (g6 _ List.mem_cons_self); have k1 := row2 (g6 _ (List.mem_cons_of_mem _ List.mem_cons_self)); have k2 := row2 (g6 _ (List.mem_cons_of_mem _ (List.mem_cons_of_mem _ List.mem_cons_self))); have ks : _ = _ := i6.f.cell (t := 29) MEM.out.1; have ka : _ = _ := i6.f.cell (t := 29) MEM.out.2.1; have ko : _ = _ := i6.f.cell (t := 29) MEM.out.2.2; clear hd i6 g6; (go_simp <;> with_reducible rfl)
  try simp only [Act.put, List.setIfInBounds_toArray, List.set_cons_zero, List.set_cons_succ]
  refine anyT_take (i := 15) (oi := ⟨some 36, _, _, _, _, _⟩) (v := ?_) rfl (by kernel_rfl) (by kernel_rfl) (by rfl) (fun _ _ _ h => h) (by kernel_rfl) (by kernel_rfl) (Or.inl ⟨by rfl, ?_⟩) hS ?_
  rotate_left 1
  · intro w' hB; have hd := (HC.out.to w5 (by simp)).trans (hB.mono (HC.out.to w5 (by simp)).size); have i6 := I5.out.below hd; have g6 := G5.out.below hd; have kr := cell_of_one i6.r; have k0 := row2 (g6 _ List.mem_cons_self); have k1 := row2 (g6 _ (List.mem_cons_of_mem _ List.mem_cons_self)); have k2 := row2 (g6 _ (List.mem_cons_of_mem _ (List.mem_cons_of_mem _ List.mem_cons_self))); have ks : _ = _ := i6.f.cell (t := 29) MEM.out.1; have ka : _ = _ := i6.f.cell (t := 29) MEM.out.2.1; have ko : _ = _ := i6.f.cell (t := 29) MEM.out.2.2; clear hd i6 g6; (go_simp <;> with_reducible rfl)
  try simp only [Act.put, List.setIfInBounds_toArray, List.set_cons_zero, List.set_cons_succ]
  refine anyT_take (i := 16) (oi := ⟨some 37, _, _, _, _, _⟩) (v := ?_) rfl (by kernel_rfl) (by kernel_rfl) (by rfl) (fun _ _ _ h => h) (by kernel_rfl) (by kernel_rfl) (Or.inl ⟨by rfl, ?_⟩) hS ?_
  rotate_left 1
  · intro w' hB; have hd := (HC.out.to w5 (by simp)).trans (hB.mono (HC.out.to w5 (by simp)).size); have i6 := I5.out.below hd; have g6 := G5.out.below hd; have kr := cell_of_one i6.r; have k0 := row2 (g6 _ List.mem_cons_self); have k1 := row2 (g6 _ (List.mem_cons_of_mem _ List.mem_cons_self)); have k2 := row2 (g6 _ (List.mem_cons_of_mem _ (List.mem_cons_of_mem _ List.mem_cons_self))); have ks : _ = _ := i6.f.cell (t := 29) MEM.out.1; have ka : _ = _ := i6.f.cell (t := 29) MEM.out.2.1; have ko : _ = _ := i6.f.cell (t := 29) MEM.out.2.2; clear hd i6 g6; (go_simp <;> with_reducible rfl)
  try simp only [Act.put, List.setIfInBounds_toArray, List.set_cons_zero, List.set_cons_succ]
  refine anyT_take (i := 17) (oi := ⟨some 38, _, _, _, _, _⟩) (v := ?_) rfl (by kernel_rfl) (by kernel_rfl) (by rfl) (fun _ _ _ h => h) (by kernel_rfl) (by kernel_rfl) (Or.inl ⟨by rfl, ?_⟩) hS ?_
  rotate_left 1
  · intro w' hB; have hd := (HC.out.to w5 (by simp)).trans (hB.mono (HC.out.to w5 (by simp)).size); have i6 := I5.out.below hd; have g6 := G5.out.below hd; have kr := cell_of_one i6.r; have k0 := row2 (g6 _ List.mem_cons_self); have k1 := row2 (g6 _ (List.mem_cons_of_mem _ List.mem_cons_self)); have k2 := row2 (g6 _ (List.mem_cons_of_mem _ (List.mem_cons_of_mem _ List.mem_cons_self))); have ks : _ = _ := i6.f.cell (t := 29) MEM.out.1; have ka : _ = _ := i6.f.cell (t := 29) MEM.out.2.1; have ko : _ = _ := i6.f.cell (t := 29) MEM.out.2.2; clear hd i6 g6; (go_simp <;> with_reducible rfl)
  try simp only [Act.put, List.setIfInBounds_toArray, List.set_cons_zero, List.set_cons_succ]
  refine anyT_take (i := 18) (oi := ⟨some 39, _, _, _, _, _⟩) (v := ?_) rfl (by kernel_rfl) (by kernel_rfl) (by rfl) (fun _ _ _ h => h) (by kernel_rfl) (by kernel_rfl) (Or.inl ⟨by rfl, ?_⟩) hS ?_
  rotate_left 1
  · intro w' hB; have hd := (HC.out.to w5 (by simp)).trans (hB.mono (HC.out.to w5 (by simp)).size); have i6 := I5.out.below hd; have g6 := G5.out.below hd; have kr := cell_of_one i6.r; have k0 := row2 (g6 _ List.mem_cons_self); have k1 := row2 (g6 _ (List.mem_cons_of_mem _ List.mem_cons_self)); have k2 := row2 (g6 _ (List.mem_cons_of_mem _ (List.mem_cons_of_mem _ List.mem_cons_self))); have ks : _ = _ := i6.f.cell (t := 29) MEM.out.1; have ka : _ = _ := i6.f.cell (t := 29) MEM.out.2.1; have ko : _ = _ := i6.f.cell (t := 29) MEM.out.2.2; clear hd i6 g6; (go_simp <;> with_reducible rfl)
  try simp only [Act.put, List.setIfInBounds_toArray, List.set_cons_zero, List.set_cons_succ]
  refine anyT_ready (rs := [19]) (by kernel_rfl) (by kernel_rfl) (by simp) (AllReadyT.cons (o := ⟨some 40, _, _, _, _, _⟩) rfl (by rfl) (fun K hK => ?_) AllReadyT.nil)
  go_simp
  refine (wk_part o key _ ((I5.out.t o (by simp)).chain HC.out hS (by simp))).mono ?_
  rintro e w8 ⟨rfl, hb⟩
  refine hK.out _ _ (hS.trans (hb.mono hS.size)) (fun _ => ?_)
  clear hK K
  have hB := hS.trans (hb.mono hS.size)
  refine anyT_now hB ?_
  clear hS
  have hS := Below.refl w8.heap.size w8
  replace HC := Lib.hid (HC.out.push hB)
  rw [RO.out]
  unfold prtVI
  dsimp only
  clear hB hb
  try simp only [Act.put, List.setIfInBounds_toArray, List.set_cons_zero, List.set_cons_succ]
  refine anyT_take (i := 20) (oi := ⟨some 41, _, _, _, _, _⟩) (v := ?_) rfl (by kernel_rfl) (by kernel_rfl) (by rfl) (fun _ _ _ h => h) (by kernel_rfl) (by kernel_rfl) (Or.inl ⟨by rfl, ?_⟩) hS ?_
  rotate_left 1
  · intro w' hB; have hd := (HC.out.to w5 (by simp)).trans (hB.mono (HC.out.to w5 (by simp)).size); have i6 := I5.out.below hd; have g6 := G5.out.below hd; have kr := cell_of_one i6.r; have k0 := row2 (g6 _ List.mem_cons_self); have k1 := row2 (g6 _ (List.mem_cons_of_mem _ List.mem_cons_self)); have k2 := row2 (g6 _ (List.mem_cons_of_mem _ (List.mem_cons_of_mem _ List.mem_cons_self))); have ks : _ = _ := i6.f.cell (t := 29) MEM.out.1; have ka : _ = _ := i6.f.cell (t := 29) MEM.out.2.1; have ko : _ = _ := i6.f.cell (t := 29) MEM.out.2.2; clear hd i6 g6; (go_simp <;> with_reducible rfl)
  try simp only [Act.put, List.setIfInBounds_toArray, List.set_cons_zero, List.set_cons_succ]
  refine anyT_take (i := 21) (oi := ⟨some 42, _, _, _, _, _⟩) (v := ?_) rfl (by kernel_rfl) (by kernel_rfl) (by rfl) (fun _ _ _ h => h) (by kernel_rfl) (by kernel_rfl) (Or.inl ⟨by rfl, ?_⟩) hS ?_
  rotate_left 1
  · intro w' hB; have hd := (HC.out.to w5 (by simp)).trans (hB.mono (HC.out.to w5 (by simp)).size); have i6 := I5.out.below hd; have g6 := G5.out.below hd; have kr := cell_of_one i6.r; have k0 := row2 (g6 _ List.mem_cons_self); have k1 := row2 (g6 _ (List.mem_cons_of_mem _ List.mem_cons_self)); have k2 := row2 (g6 _ (List.mem_cons_of_mem _ (List.mem_cons_of_mem _ List.mem_cons_self))); have ks : _ = _ := i6.f.cell (t := 29) MEM.out.1; have ka : _ = _ := i6.f.cell (t := 29) MEM.out.2.1; have ko : _ = _ := i6.f.cell (t := 29) MEM.out.2.2; clear hd i6 g6; (go_simp <;> with_reducible rfl)
  try simp only [Act.put, List.setIfInBounds_toArray, List.set_cons_zero, List.set_cons_succ]
  refine anyT_tail (by kernel_rfl) ?_
  (try clear hS)
  refine any_one (i := 22) (o := ⟨none, _, _, _, _, _⟩) (by kernel_rfl) rfl (by rfl) (fun K hK => ?_)
  have R8 := Lib.hid (I5.out.below (HC.out.to w5 (by simp))).r
  have kr := cell_of_one R8.out
  have fr := frozen_of_row _ rb 0 _ _ R8.out
  go_simp
  refine hK.out _ _ ?_
  clear hK K
  try simp only [Act.put, List.setIfInBounds_toArray, List.set_cons_zero, List.set_cons_succ]
  refine wpAny_done (by kernel_rfl) (NoPanic.normal ?_) _
  obtain ⟨w9, hw9⟩ : ∃ W, w8.setCell ⟨rb, 0, none⟩ (.bool true) = W := ⟨_, rfl⟩
  rw [hw9]
  have hd := HC.out.to w5 (by simp)
  have hk9 : KeepX (rlB rb) w8 w9 := by rw [← hw9]; exact KeepX.setRow (KeepX.refl _) R8.out ⟨rfl, rfl⟩ 0 _
  have R9 : Boxed w9 rb 4 (.bool true) := by rw [← hw9]; exact Boxed.set (t := 4) (v := .bool true) (.bool true) R8.out
  have i8 := I5.out.below hd
  have g8 := G5.out.below hd
  have I9 : Hid (RlI z ab rb H [s, a, o] (xs ++ [key]) w9) := Lib.hid (by
    obtain ⟨v9, hv9, ho9⟩ := i8.l
    exact ⟨⟨v9, hk9.row hv9 (fun h => absurd h.2 (by decide)), own_keepX ho9 hk9 (fun k _ h => absurd h.2 (by decide))⟩, R9, i8.f.keepX hk9 (fun p hp c t fr e hx => by
      obtain ⟨c', fr', e'⟩ := HH.out p hp
      rw [e'] at e
      cases e
      exact absurd hx.2 (by decide)), fun t ht => (i8.t t ht).keepX hk9 (fun k h => absurd h.2 (by decide))⟩)
  have G9 := g8.keepX hk9 (by
      intro p hp c' t' fr' e
      simp only [List.mem_cons, List.not_mem_nil, or_false] at hp
      rcases hp with rfl | rfl | rfl <;> (cases e; exact fun h => absurd h.2 (by decide)))
  have GG := Lib.hid G9
  have k0 := row2 (G9 _ List.mem_cons_self)
  have k1 := row2 (G9 _ (List.mem_cons_of_mem _ List.mem_cons_self))
  have k2 := row2 (G9 _ (List.mem_cons_of_mem _ (List.mem_cons_of_mem _ List.mem_cons_self)))
  have K9 : Hid (KeepX (rlX z ab rb) w w9) := Lib.hid ((K5.out.trans (KeepX.ofBelow hd)).trans (hk9.monoX fun k t h => Or.inr (Or.inl h)))
  clear hd hw9 hk9 R9 i8 g8 G9 R8 kr fr HC K5 I5 G5
  obtain ⟨e1, e2, e3⟩ := HP.out
  clear HP PS QA RO
  cases pb <;> cases qb <;> cases rb' <;> simp only [reduceIte, Bool.false_eq_true] at e1 e2 e3 <;> subst e1 e2 e3
  all_goals go_wp2_with fail
  ·
    refine wp_region_noPanic ?_
    refine wp_region_held_drew (S := fun w' => Below w9.heap.size w9 w') (by kernel_rfl) (Below.refl _ _).drew (fun hS => ?_)
    refine wpAnyH_take (i := 0) (oi := ⟨some 51, _, _, _, _, _⟩) (v := ?_) rfl (by kernel_rfl) (by kernel_rfl) (by kernel_rfl) (fun _ _ _ h => h) (Or.inl ⟨by rfl, ?_⟩) hS ?_
    rotate_left 1
    · intro w' hB; have g6 := GG.out.below hB; have j1 := row2 (g6 _ (List.mem_cons_of_mem _ List.mem_cons_self)); have j2 := row2 (g6 _ (List.mem_cons_of_mem _ (List.mem_cons_of_mem _ List.mem_cons_self))); clear g6; (go_simp <;> with_reducible rfl)
    try simp only [Act.put, List.setIfInBounds_toArray, List.set_cons_zero, List.set_cons_succ]
    refine wpAnyH_take (i := 1) (oi := ⟨some 52, _, _, _, _, _⟩) (v := ?_) rfl (by kernel_rfl) (by kernel_rfl) (by kernel_rfl) (fun _ _ _ h => h) (Or.inl ⟨by rfl, ?_⟩) hS ?_
    rotate_left 1
    · intro w' hB; have g6 := GG.out.below hB; have j1 := row2 (g6 _ (List.mem_cons_of_mem _ List.mem_cons_self)); have j2 := row2 (g6 _ (List.mem_cons_of_mem _ (List.mem_cons_of_mem _ List.mem_cons_self))); clear g6; (go_simp <;> with_reducible rfl)
    try simp only [Act.put, List.setIfInBounds_toArray, List.set_cons_zero, List.set_cons_succ]
    refine wpAnyH_take (i := 2) (oi := ⟨some 53, _, _, _, _, _⟩) (v := ?_) rfl (by kernel_rfl) (by kernel_rfl) (by kernel_rfl) (fun _ _ _ h => h) (Or.inl ⟨by rfl, ?_⟩) hS ?_
    rotate_left 1
    · intro w' hB; have g6 := GG.out.below hB; have j1 := row2 (g6 _ (List.mem_cons_of_mem _ List.mem_cons_self)); have j2 := row2 (g6 _ (List.mem_cons_of_mem _ (List.mem_cons_of_mem _ List.mem_cons_self))); clear g6; (go_simp <;> with_reducible rfl)
    try simp only [Act.put, List.setIfInBounds_toArray, List.set_cons_zero, List.set_cons_succ]
    refine wpAnyH_take (i := 3) (oi := ⟨some 54, _, _, _, _, _⟩) (v := ?_) rfl (by kernel_rfl) (by kernel_rfl) (by kernel_rfl) (fun _ _ _ h => h) (Or.inl ⟨by rfl, ?_⟩) hS ?_
    rotate_left 1
    · intro w' hB; have g6 := GG.out.below hB; have j1 := row2 (g6 _ (List.mem_cons_of_mem _ List.mem_cons_self)); have j2 := row2 (g6 _ (List.mem_cons_of_mem _ (List.mem_cons_of_mem _ List.mem_cons_self))); clear g6; (go_simp <;> with_reducible rfl)
    try simp only [Act.put, List.setIfInBounds_toArray, List.set_cons_zero, List.set_cons_succ]
    refine wpAnyH_take (i := 4) (oi := ⟨some 14, _, _, _, _, _⟩) (v := ?_) rfl (by kernel_rfl) (by kernel_rfl) (by kernel_rfl) (fun _ _ _ h => h) (Or.inl ⟨by rfl, ?_⟩) hS ?_
    rotate_left 1
    · intro w' hB; have g6 := GG.out.below hB; have j1 := row2 (g6 _ (List.mem_cons_of_mem _ List.mem_cons_self)); have j2 := row2 (g6 _ (List.mem_cons_of_mem _ (List.mem_cons_of_mem _ List.mem_cons_self))); clear g6; (go_simp <;> with_reducible rfl)
    try simp only [Act.put, List.setIfInBounds_toArray, List.set_cons_zero, List.set_cons_succ]
    refine wpAnyH_take (i := 5) (oi := ⟨some 15, _, _, _, _, _⟩) (v := ?_) rfl (by kernel_rfl) (by kernel_rfl) (by kernel_rfl) (fun _ _ _ h => h) (Or.inl ⟨by rfl, ?_⟩) hS ?_
    rotate_left 1
    · intro w' hB; have g6 := GG.out.below hB; have j1 := row2 (g6 _ (List.mem_cons_of_mem _ List.mem_cons_self)); have j2 := row2 (g6 _ (List.mem_cons_of_mem _ (List.mem_cons_of_mem _ List.mem_cons_self))); clear g6; (go_simp <;> with_reducible rfl)
    try simp only [Act.put, List.setIfInBounds_toArray, List.set_cons_zero, List.set_cons_succ]
    refine wpAnyH_done (by kernel_rfl) (NoPanic.normal ?_) _
    go_wp2_with fail
    go_ret2
    exact ⟨by simp [rlF], I9.out.below (Below.refl _ w9).drew, K9.out.drew⟩
  ·
    refine wp_region_noPanic ?_
    refine wp_region_held_drew (S := fun w' => Below w9.heap.size w9 w') (by kernel_rfl) (Below.refl _ _).drew (fun hS => ?_)
    refine wpAnyH_take (i := 0) (oi := ⟨some 58, _, _, _, _, _⟩) (v := ?_) rfl (by kernel_rfl) (by kernel_rfl) (by kernel_rfl) (fun _ _ _ h => h) (Or.inl ⟨by rfl, ?_⟩) hS ?_
    rotate_left 1
    · intro w' hB; have g6 := GG.out.below hB; have j1 := row2 (g6 _ (List.mem_cons_of_mem _ List.mem_cons_self)); have j2 := row2 (g6 _ (List.mem_cons_of_mem _ (List.mem_cons_of_mem _ List.mem_cons_self))); clear g6; (go_simp <;> with_reducible rfl)
    try simp only [Act.put, List.setIfInBounds_toArray, List.set_cons_zero, List.set_cons_succ]
    refine wpAnyH_take (i := 1) (oi := ⟨some 59, _, _, _, _, _⟩) (v := ?_) rfl (by kernel_rfl) (by kernel_rfl) (by kernel_rfl) (fun _ _ _ h => h) (Or.inl ⟨by rfl, ?_⟩) hS ?_
    rotate_left 1
    · intro w' hB; have g6 := GG.out.below hB; have j1 := row2 (g6 _ (List.mem_cons_of_mem _ List.mem_cons_self)); have j2 := row2 (g6 _ (List.mem_cons_of_mem _ (List.mem_cons_of_mem _ List.mem_cons_self))); clear g6; (go_simp <;> with_reducible rfl)
    try simp only [Act.put, List.setIfInBounds_toArray, List.set_cons_zero, List.set_cons_succ]
    refine wpAnyH_take (i := 2) (oi := ⟨some 60, _, _, _, _, _⟩) (v := ?_) rfl (by kernel_rfl) (by kernel_rfl) (by kernel_rfl) (fun _ _ _ h => h) (Or.inl ⟨by rfl, ?_⟩) hS ?_
    rotate_left 1
    · intro w' hB; have g6 := GG.out.below hB; have j1 := row2 (g6 _ (List.mem_cons_of_mem _ List.mem_cons_self)); have j2 := row2 (g6 _ (List.mem_cons_of_mem _ (List.mem_cons_of_mem _ List.mem_cons_self))); clear g6; (go_simp <;> with_reducible rfl)
    try simp only [Act.put, List.setIfInBounds_toArray, List.set_cons_zero, List.set_cons_succ]
    refine wpAnyH_take (i := 3) (oi := ⟨some 61, _, _, _, _, _⟩) (v := ?_) rfl (by kernel_rfl) (by kernel_rfl) (by kernel_rfl) (fun _ _ _ h => h) (Or.inl ⟨by rfl, ?_⟩) hS ?_
    rotate_left 1
    · intro w' hB; have g6 := GG.out.below hB; have j1 := row2 (g6 _ (List.mem_cons_of_mem _ List.mem_cons_self)); have j2 := row2 (g6 _ (List.mem_cons_of_mem _ (List.mem_cons_of_mem _ List.mem_cons_self))); clear g6; (go_simp <;> with_reducible rfl)
    try simp only [Act.put, List.setIfInBounds_toArray, List.set_cons_zero, List.set_cons_succ]
    refine wpAnyH_take (i := 4) (oi := ⟨some 14, _, _, _, _, _⟩) (v := ?_) rfl (by kernel_rfl) (by kernel_rfl) (by kernel_rfl) (fun _ _ _ h => h) (Or.inl ⟨by rfl, ?_⟩) hS ?_
    rotate_left 1
    · intro w' hB; have g6 := GG.out.below hB; have j1 := row2 (g6 _ (List.mem_cons_of_mem _ List.mem_cons_self)); have j2 := row2 (g6 _ (List.mem_cons_of_mem _ (List.mem_cons_of_mem _ List.mem_cons_self))); clear g6; (go_simp <;> with_reducible rfl)
    try simp only [Act.put, List.setIfInBounds_toArray, List.set_cons_zero, List.set_cons_succ]
    refine wpAnyH_take (i := 5) (oi := ⟨some 15, _, _, _, _, _⟩) (v := ?_) rfl (by kernel_rfl) (by kernel_rfl) (by kernel_rfl) (fun _ _ _ h => h) (Or.inl ⟨by rfl, ?_⟩) hS ?_
    rotate_left 1
    · intro w' hB; have g6 := GG.out.below hB; have j1 := row2 (g6 _ (List.mem_cons_of_mem _ List.mem_cons_self)); have j2 := row2 (g6 _ (List.mem_cons_of_mem _ (List.mem_cons_of_mem _ List.mem_cons_self))); clear g6; (go_simp <;> with_reducible rfl)
    try simp only [Act.put, List.setIfInBounds_toArray, List.set_cons_zero, List.set_cons_succ]
    refine wpAnyH_done (by kernel_rfl) (NoPanic.normal ?_) _
    go_wp2_with fail
    go_ret2
    exact ⟨by simp [rlF], I9.out.below (Below.refl _ w9).drew, K9.out.drew⟩
  ·
    refine wp_region_noPanic ?_
    refine wp_region_held_drew (S := fun w' => Below w9.heap.size w9 w') (by kernel_rfl) (Below.refl _ _).drew (fun hS => ?_)
    refine wpAnyH_take (i := 0) (oi := ⟨some 51, _, _, _, _, _⟩) (v := ?_) rfl (by kernel_rfl) (by kernel_rfl) (by kernel_rfl) (fun _ _ _ h => h) (Or.inl ⟨by rfl, ?_⟩) hS ?_
    rotate_left 1
    · intro w' hB; have g6 := GG.out.below hB; have j1 := row2 (g6 _ (List.mem_cons_of_mem _ List.mem_cons_self)); have j2 := row2 (g6 _ (List.mem_cons_of_mem _ (List.mem_cons_of_mem _ List.mem_cons_self))); clear g6; (go_simp <;> with_reducible rfl)
    try simp only [Act.put, List.setIfInBounds_toArray, List.set_cons_zero, List.set_cons_succ]
    refine wpAnyH_take (i := 1) (oi := ⟨some 52, _, _, _, _, _⟩) (v := ?_) rfl (by kernel_rfl) (by kernel_rfl) (by kernel_rfl) (fun _ _ _ h => h) (Or.inl ⟨by rfl, ?_⟩) hS ?_
    rotate_left 1
    · intro w' hB; have g6 := GG.out.below hB; have j1 := row2 (g6 _ (List.mem_cons_of_mem _ List.mem_cons_self)); have j2 := row2 (g6 _ (List.mem_cons_of_mem _ (List.mem_cons_of_mem _ List.mem_cons_self))); clear g6; (go_simp <;> with_reducible rfl)
    try simp only [Act.put, List.setIfInBounds_toArray, List.set_cons_zero, List.set_cons_succ]
    refine wpAnyH_take (i := 2) (oi := ⟨some 53, _, _, _, _, _⟩) (v := ?_) rfl (by kernel_rfl) (by kernel_rfl) (by kernel_rfl) (fun _ _ _ h => h) (Or.inl ⟨by rfl, ?_⟩) hS ?_
    rotate_left 1
    · intro w' hB; have g6 := GG.out.below hB; have j1 := row2 (g6 _ (List.mem_cons_of_mem _ List.mem_cons_self)); have j2 := row2 (g6 _ (List.mem_cons_of_mem _ (List.mem_cons_of_mem _ List.mem_cons_self))); clear g6; (go_simp <;> with_reducible rfl)
    try simp only [Act.put, List.setIfInBounds_toArray, List.set_cons_zero, List.set_cons_succ]
    refine wpAnyH_take (i := 3) (oi := ⟨some 54, _, _, _, _, _⟩) (v := ?_) rfl (by kernel_rfl) (by kernel_rfl) (by kernel_rfl) (fun _ _ _ h => h) (Or.inl ⟨by rfl, ?_⟩) hS ?_
    rotate_left 1
    · intro w' hB; have g6 := GG.out.below hB; have j1 := row2 (g6 _ (List.mem_cons_of_mem _ List.mem_cons_self)); have j2 := row2 (g6 _ (List.mem_cons_of_mem _ (List.mem_cons_of_mem _ List.mem_cons_self))); clear g6; (go_simp <;> with_reducible rfl)
    try simp only [Act.put, List.setIfInBounds_toArray, List.set_cons_zero, List.set_cons_succ]
    refine wpAnyH_take (i := 4) (oi := ⟨some 14, _, _, _, _, _⟩) (v := ?_) rfl (by kernel_rfl) (by kernel_rfl) (by kernel_rfl) (fun _ _ _ h => h) (Or.inl ⟨by rfl, ?_⟩) hS ?_
    rotate_left 1
    · intro w' hB; have g6 := GG.out.below hB; have j1 := row2 (g6 _ (List.mem_cons_of_mem _ List.mem_cons_self)); have j2 := row2 (g6 _ (List.mem_cons_of_mem _ (List.mem_cons_of_mem _ List.mem_cons_self))); clear g6; (go_simp <;> with_reducible rfl)
    try simp only [Act.put, List.setIfInBounds_toArray, List.set_cons_zero, List.set_cons_succ]
    refine wpAnyH_take (i := 5) (oi := ⟨some 15, _, _, _, _, _⟩) (v := ?_) rfl (by kernel_rfl) (by kernel_rfl) (by kernel_rfl) (fun _ _ _ h => h) (Or.inl ⟨by rfl, ?_⟩) hS ?_
    rotate_left 1
    · intro w' hB; have g6 := GG.out.below hB; have j1 := row2 (g6 _ (List.mem_cons_of_mem _ List.mem_cons_self)); have j2 := row2 (g6 _ (List.mem_cons_of_mem _ (List.mem_cons_of_mem _ List.mem_cons_self))); clear g6; (go_simp <;> with_reducible rfl)
    try simp only [Act.put, List.setIfInBounds_toArray, List.set_cons_zero, List.set_cons_succ]
    refine wpAnyH_done (by kernel_rfl) (NoPanic.normal ?_) _
    go_wp2_with fail
    go_ret2
    exact ⟨by simp [rlF], I9.out.below (Below.refl _ w9).drew, K9.out.drew⟩
  ·
    refine wp_region_noPanic ?_
    refine wp_region_held_drew (S := fun w' => Below w9.heap.size w9 w') (by kernel_rfl) (Below.refl _ _).drew (fun hS => ?_)
    refine wpAnyH_take (i := 0) (oi := ⟨some 51, _, _, _, _, _⟩) (v := ?_) rfl (by kernel_rfl) (by kernel_rfl) (by kernel_rfl) (fun _ _ _ h => h) (Or.inl ⟨by rfl, ?_⟩) hS ?_
    rotate_left 1
    · intro w' hB; have g6 := GG.out.below hB; have j1 := row2 (g6 _ (List.mem_cons_of_mem _ List.mem_cons_self)); have j2 := row2 (g6 _ (List.mem_cons_of_mem _ (List.mem_cons_of_mem _ List.mem_cons_self))); clear g6; (go_simp <;> with_reducible rfl)
    try simp only [Act.put, List.setIfInBounds_toArray, List.set_cons_zero, List.set_cons_succ]
    refine wpAnyH_take (i := 1) (oi := ⟨some 52, _, _, _, _, _⟩) (v := ?_) rfl (by kernel_rfl) (by kernel_rfl) (by kernel_rfl) (fun _ _ _ h => h) (Or.inl ⟨by rfl, ?_⟩) hS ?_
    rotate_left 1
    · intro w' hB; have g6 := GG.out.below hB; have j1 := row2 (g6 _ (List.mem_cons_of_mem _ List.mem_cons_self)); have j2 := row2 (g6 _ (List.mem_cons_of_mem _ (List.mem_cons_of_mem _ List.mem_cons_self))); clear g6; (go_simp <;> with_reducible rfl)
    try simp only [Act.put, List.setIfInBounds_toArray, List.set_cons_zero, List.set_cons_succ]
    refine wpAnyH_take (i := 2) (oi := ⟨some 53, _, _, _, _, _⟩) (v := ?_) rfl (by kernel_rfl) (by kernel_rfl) (by kernel_rfl) (fun _ _ _ h => h) (Or.inl ⟨by rfl, ?_⟩) hS ?_
    rotate_left 1
    · intro w' hB; have g6 := GG.out.below hB; have j1 := row2 (g6 _ (List.mem_cons_of_mem _ List.mem_cons_self)); have j2 := row2 (g6 _ (List.mem_cons_of_mem _ (List.mem_cons_of_mem _ List.mem_cons_self))); clear g6; (go_simp <;> with_reducible rfl)
    try simp only [Act.put, List.setIfInBounds_toArray, List.set_cons_zero, List.set_cons_succ]
    refine wpAnyH_take (i := 3) (oi := ⟨some 54, _, _, _, _, _⟩) (v := ?_) rfl (by kernel_rfl) (by kernel_rfl) (by kernel_rfl) (fun _ _ _ h => h) (Or.inl ⟨by rfl, ?_⟩) hS ?_
    rotate_left 1
    · intro w' hB; have g6 := GG.out.below hB; have j1 := row2 (g6 _ (List.mem_cons_of_mem _ List.mem_cons_self)); have j2 := row2 (g6 _ (List.mem_cons_of_mem _ (List.mem_cons_of_mem _ List.mem_cons_self))); clear g6; (go_simp <;> with_reducible rfl)
    try simp only [Act.put, List.setIfInBounds_toArray, List.set_cons_zero, List.set_cons_succ]
    refine wpAnyH_take (i := 4) (oi := ⟨some 14, _, _, _, _, _⟩) (v := ?_) rfl (by kernel_rfl) (by kernel_rfl) (by kernel_rfl) (fun _ _ _ h => h) (Or.inl ⟨by rfl, ?_⟩) hS ?_
    rotate_left 1
    · intro w' hB; have g6 := GG.out.below hB; have j1 := row2 (g6 _ (List.mem_cons_of_mem _ List.mem_cons_self)); have j2 := row2 (g6 _ (List.mem_cons_of_mem _ (List.mem_cons_of_mem _ List.mem_cons_self))); clear g6; (go_simp <;> with_reducible rfl)
    try simp only [Act.put, List.setIfInBounds_toArray, List.set_cons_zero, List.set_cons_succ]
    refine wpAnyH_take (i := 5) (oi := ⟨some 15, _, _, _, _, _⟩) (v := ?_) rfl (by kernel_rfl) (by kernel_rfl) (by kernel_rfl) (fun _ _ _ h => h) (Or.inl ⟨by rfl, ?_⟩) hS ?_
    rotate_left 1
    · intro w' hB; have g6 := GG.out.below hB; have j1 := row2 (g6 _ (List.mem_cons_of_mem _ List.mem_cons_self)); have j2 := row2 (g6 _ (List.mem_cons_of_mem _ (List.mem_cons_of_mem _ List.mem_cons_self))); clear g6; (go_simp <;> with_reducible rfl)
    try simp only [Act.put, List.setIfInBounds_toArray, List.set_cons_zero, List.set_cons_succ]
    refine wpAnyH_done (by kernel_rfl) (NoPanic.normal ?_) _
    go_wp2_with fail
    go_ret2
    exact ⟨by simp [rlF], I9.out.below (Below.refl _ w9).drew, K9.out.drew⟩
  ·
    refine wp_region_noPanic ?_
    refine wp_region_held_drew (S := fun w' => Below w9.heap.size w9 w') (by kernel_rfl) (Below.refl _ _).drew (fun hS => ?_)
    refine wpAnyH_take (i := 0) (oi := ⟨some 51, _, _, _, _, _⟩) (v := ?_) rfl (by kernel_rfl) (by kernel_rfl) (by kernel_rfl) (fun _ _ _ h => h) (Or.inl ⟨by rfl, ?_⟩) hS ?_
    rotate_left 1
    · intro w' hB; have g6 := GG.out.below hB; have j1 := row2 (g6 _ (List.mem_cons_of_mem _ List.mem_cons_self)); have j2 := row2 (g6 _ (List.mem_cons_of_mem _ (List.mem_cons_of_mem _ List.mem_cons_self))); clear g6; (go_simp <;> with_reducible rfl)
    try simp only [Act.put, List.setIfInBounds_toArray, List.set_cons_zero, List.set_cons_succ]
    refine wpAnyH_take (i := 1) (oi := ⟨some 52, _, _, _, _, _⟩) (v := ?_) rfl (by kernel_rfl) (by kernel_rfl) (by kernel_rfl) (fun _ _ _ h => h) (Or.inl ⟨by rfl, ?_⟩) hS ?_
    rotate_left 1
    · intro w' hB; have g6 := GG.out.below hB; have j1 := row2 (g6 _ (List.mem_cons_of_mem _ List.mem_cons_self)); have j2 := row2 (g6 _ (List.mem_cons_of_mem _ (List.mem_cons_of_mem _ List.mem_cons_self))); clear g6; (go_simp <;> with_reducible rfl)
    try simp only [Act.put, List.setIfInBounds_toArray, List.set_cons_zero, List.set_cons_succ]
    refine wpAnyH_take (i := 2) (oi := ⟨some 53, _, _, _, _, _⟩) (v := ?_) rfl (by kernel_rfl) (by kernel_rfl) (by kernel_rfl) (fun _ _ _ h => h) (Or.inl ⟨by rfl, ?_⟩) hS ?_
    rotate_left 1
    · intro w' hB; have g6 := GG.out.below hB; have j1 := row2 (g6 _ (List.mem_cons_of_mem _ List.mem_cons_self)); have j2 := row2 (g6 _ (List.mem_cons_of_mem _ (List.mem_cons_of_mem _ List.mem_cons_self))); clear g6; (go_simp <;> with_reducible rfl)
    try simp only [Act.put, List.setIfInBounds_toArray, List.set_cons_zero, List.set_cons_succ]
    refine wpAnyH_take (i := 3) (oi := ⟨some 54, _, _, _, _, _⟩) (v := ?_) rfl (by kernel_rfl) (by kernel_rfl) (by kernel_rfl) (fun _ _ _ h => h) (Or.inl ⟨by rfl, ?_⟩) hS ?_
    rotate_left 1
    · intro w' hB; have g6 := GG.out.below hB; have j1 := row2 (g6 _ (List.mem_cons_of_mem _ List.mem_cons_self)); have j2 := row2 (g6 _ (List.mem_cons_of_mem _ (List.mem_cons_of_mem _ List.mem_cons_self))); clear g6; (go_simp <;> with_reducible rfl)
    try simp only [Act.put, List.setIfInBounds_toArray, List.set_cons_zero, List.set_cons_succ]
    refine wpAnyH_take (i := 4) (oi := ⟨some 14, _, _, _, _, _⟩) (v := ?_) rfl (by kernel_rfl) (by kernel_rfl) (by kernel_rfl) (fun _ _ _ h => h) (Or.inl ⟨by rfl, ?_⟩) hS ?_
    rotate_left 1
    · intro w' hB; have g6 := GG.out.below hB; have j1 := row2 (g6 _ (List.mem_cons_of_mem _ List.mem_cons_self)); have j2 := row2 (g6 _ (List.mem_cons_of_mem _ (List.mem_cons_of_mem _ List.mem_cons_self))); clear g6; (go_simp <;> with_reducible rfl)
    try simp only [Act.put, List.setIfInBounds_toArray, List.set_cons_zero, List.set_cons_succ]
    refine wpAnyH_take (i := 5) (oi := ⟨some 15, _, _, _, _, _⟩) (v := ?_) rfl (by kernel_rfl) (by kernel_rfl) (by kernel_rfl) (fun _ _ _ h => h) (Or.inl ⟨by rfl, ?_⟩) hS ?_
    rotate_left 1
    · intro w' hB; have g6 := GG.out.below hB; have j1 := row2 (g6 _ (List.mem_cons_of_mem _ List.mem_cons_self)); have j2 := row2 (g6 _ (List.mem_cons_of_mem _ (List.mem_cons_of_mem _ List.mem_cons_self))); clear g6; (go_simp <;> with_reducible rfl)
    try simp only [Act.put, List.setIfInBounds_toArray, List.set_cons_zero, List.set_cons_succ]
    refine wpAnyH_done (by kernel_rfl) (NoPanic.normal ?_) _
    go_wp2_with fail
    go_ret2
    exact ⟨by simp [rlF], I9.out.below (Below.refl _ w9).drew, K9.out.drew⟩
  ·
    refine wp_region_noPanic ?_
    refine wp_region_held_drew (S := fun w' => Below w9.heap.size w9 w') (by kernel_rfl) (Below.refl _ _).drew (fun hS => ?_)
    refine wpAnyH_take (i := 0) (oi := ⟨some 51, _, _, _, _, _⟩) (v := ?_) rfl (by kernel_rfl) (by kernel_rfl) (by kernel_rfl) (fun _ _ _ h => h) (Or.inl ⟨by rfl, ?_⟩) hS ?_
    rotate_left 1
    · intro w' hB; have g6 := GG.out.below hB; have j1 := row2 (g6 _ (List.mem_cons_of_mem _ List.mem_cons_self)); have j2 := row2 (g6 _ (List.mem_cons_of_mem _ (List.mem_cons_of_mem _ List.mem_cons_self))); clear g6; (go_simp <;> with_reducible rfl)
    try simp only [Act.put, List.setIfInBounds_toArray, List.set_cons_zero, List.set_cons_succ]
    refine wpAnyH_take (i := 1) (oi := ⟨some 52, _, _, _, _, _⟩) (v := ?_) rfl (by kernel_rfl) (by kernel_rfl) (by kernel_rfl) (fun _ _ _ h => h) (Or.inl ⟨by rfl, ?_⟩) hS ?_
    rotate_left 1
    · intro w' hB; have g6 := GG.out.below hB; have j1 := row2 (g6 _ (List.mem_cons_of_mem _ List.mem_cons_self)); have j2 := row2 (g6 _ (List.mem_cons_of_mem _ (List.mem_cons_of_mem _ List.mem_cons_self))); clear g6; (go_simp <;> with_reducible rfl)
    try simp only [Act.put, List.setIfInBounds_toArray, List.set_cons_zero, List.set_cons_succ]
    refine wpAnyH_take (i := 2) (oi := ⟨some 53, _, _, _, _, _⟩) (v := ?_) rfl (by kernel_rfl) (by kernel_rfl) (by kernel_rfl) (fun _ _ _ h => h) (Or.inl ⟨by rfl, ?_⟩) hS ?_
    rotate_left 1
    · intro w' hB; have g6 := GG.out.below hB; have j1 := row2 (g6 _ (List.mem_cons_of_mem _ List.mem_cons_self)); have j2 := row2 (g6 _ (List.mem_cons_of_mem _ (List.mem_cons_of_mem _ List.mem_cons_self))); clear g6; (go_simp <;> with_reducible rfl)
    try simp only [Act.put, List.setIfInBounds_toArray, List.set_cons_zero, List.set_cons_succ]
    refine wpAnyH_take (i := 3) (oi := ⟨some 54, _, _, _, _, _⟩) (v := ?_) rfl (by kernel_rfl) (by kernel_rfl) (by kernel_rfl) (fun _ _ _ h => h) (Or.inl ⟨by rfl, ?_⟩) hS ?_
    rotate_left 1
    · intro w' hB; have g6 := GG.out.below hB; have j1 := row2 (g6 _ (List.mem_cons_of_mem _ List.mem_cons_self)); have j2 := row2 (g6 _ (List.mem_cons_of_mem _ (List.mem_cons_of_mem _ List.mem_cons_self))); clear g6; (go_simp <;> with_reducible rfl)
    try simp only [Act.put, List.setIfInBounds_toArray, List.set_cons_zero, List.set_cons_succ]
    refine wpAnyH_take (i := 4) (oi := ⟨some 14, _, _, _, _, _⟩) (v := ?_) rfl (by kernel_rfl) (by kernel_rfl) (by kernel_rfl) (fun _ _ _ h => h) (Or.inl ⟨by rfl, ?_⟩) hS ?_
    rotate_left 1
    · intro w' hB; have g6 := GG.out.below hB; have j1 := row2 (g6 _ (List.mem_cons_of_mem _ List.mem_cons_self)); have j2 := row2 (g6 _ (List.mem_cons_of_mem _ (List.mem_cons_of_mem _ List.mem_cons_self))); clear g6; (go_simp <;> with_reducible rfl)
    try simp only [Act.put, List.setIfInBounds_toArray, List.set_cons_zero, List.set_cons_succ]
    refine wpAnyH_take (i := 5) (oi := ⟨some 15, _, _, _, _, _⟩) (v := ?_) rfl (by kernel_rfl) (by kernel_rfl) (by kernel_rfl) (fun _ _ _ h => h) (Or.inl ⟨by rfl, ?_⟩) hS ?_
    rotate_left 1
    · intro w' hB; have g6 := GG.out.below hB; have j1 := row2 (g6 _ (List.mem_cons_of_mem _ List.mem_cons_self)); have j2 := row2 (g6 _ (List.mem_cons_of_mem _ (List.mem_cons_of_mem _ List.mem_cons_self))); clear g6; (go_simp <;> with_reducible rfl)
    try simp only [Act.put, List.setIfInBounds_toArray, List.set_cons_zero, List.set_cons_succ]
    refine wpAnyH_done (by kernel_rfl) (NoPanic.normal ?_) _
    go_wp2_with fail
    go_ret2
    exact ⟨by simp [rlF], I9.out.below (Below.refl _ w9).drew, K9.out.drew⟩
  ·
    refine wp_region_noPanic ?_
    refine wp_region_held_drew (S := fun w' => Below w9.heap.size w9 w') (by kernel_rfl) (Below.refl _ _).drew (fun hS => ?_)
    refine wpAnyH_take (i := 0) (oi := ⟨some 58, _, _, _, _, _⟩) (v := ?_) rfl (by kernel_rfl) (by kernel_rfl) (by kernel_rfl) (fun _ _ _ h => h) (Or.inl ⟨by rfl, ?_⟩) hS ?_
    rotate_left 1
    · intro w' hB; have g6 := GG.out.below hB; have j1 := row2 (g6 _ (List.mem_cons_of_mem _ List.mem_cons_self)); have j2 := row2 (g6 _ (List.mem_cons_of_mem _ (List.mem_cons_of_mem _ List.mem_cons_self))); clear g6; (go_simp <;> with_reducible rfl)
    try simp only [Act.put, List.setIfInBounds_toArray, List.set_cons_zero, List.set_cons_succ]
    refine wpAnyH_take (i := 1) (oi := ⟨some 59, _, _, _, _, _⟩) (v := ?_) rfl (by kernel_rfl) (by kernel_rfl) (by kernel_rfl) (fun _ _ _ h => h) (Or.inl ⟨by rfl, ?_⟩) hS ?_
    rotate_left 1
    · intro w' hB; have g6 := GG.out.below hB; have j1 := row2 (g6 _ (List.mem_cons_of_mem _ List.mem_cons_self)); have j2 := row2 (g6 _ (List.mem_cons_of_mem _ (List.mem_cons_of_mem _ List.mem_cons_self))); clear g6; (go_simp <;> with_reducible rfl)
    try simp only [Act.put, List.setIfInBounds_toArray, List.set_cons_zero, List.set_cons_succ]
    refine wpAnyH_take (i := 2) (oi := ⟨some 60, _, _, _, _, _⟩) (v := ?_) rfl (by kernel_rfl) (by kernel_rfl) (by kernel_rfl) (fun _ _ _ h => h) (Or.inl ⟨by rfl, ?_⟩) hS ?_
    rotate_left 1
    · intro w' hB; have g6 := GG.out.below hB; have j1 := row2 (g6 _ (List.mem_cons_of_mem _ List.mem_cons_self)); have j2 := row2 (g6 _ (List.mem_cons_of_mem _ (List.mem_cons_of_mem _ List.mem_cons_self))); clear g6; (go_simp <;> with_reducible rfl)
    try simp only [Act.put, List.setIfInBounds_toArray, List.set_cons_zero, List.set_cons_succ]
    refine wpAnyH_take (i := 3) (oi := ⟨some 61, _, _, _, _, _⟩) (v := ?_) rfl (by kernel_rfl) (by kernel_rfl) (by kernel_rfl) (fun _ _ _ h => h) (Or.inl ⟨by rfl, ?_⟩) hS ?_
    rotate_left 1
    · intro w' hB; have g6 := GG.out.below hB; have j1 := row2 (g6 _ (List.mem_cons_of_mem _ List.mem_cons_self)); have j2 := row2 (g6 _ (List.mem_cons_of_mem _ (List.mem_cons_of_mem _ List.mem_cons_self))); clear g6; (go_simp <;> with_reducible rfl)
    try simp only [Act.put, List.setIfInBounds_toArray, List.set_cons_zero, List.set_cons_succ]
    refine wpAnyH_take (i := 4) (oi := ⟨some 14, _, _, _, _, _⟩) (v := ?_) rfl (by kernel_rfl) (by kernel_rfl) (by kernel_rfl) (fun _ _ _ h => h) (Or.inl ⟨by rfl, ?_⟩) hS ?_
    rotate_left 1
    · intro w' hB; have g6 := GG.out.below hB; have j1 := row2 (g6 _ (List.mem_cons_of_mem _ List.mem_cons_self)); have j2 := row2 (g6 _ (List.mem_cons_of_mem _ (List.mem_cons_of_mem _ List.mem_cons_self))); clear g6; (go_simp <;> with_reducible rfl)
    try simp only [Act.put, List.setIfInBounds_toArray, List.set_cons_zero, List.set_cons_succ]
    refine wpAnyH_take (i := 5) (oi := ⟨some 15, _, _, _, _, _⟩) (v := ?_) rfl (by kernel_rfl) (by kernel_rfl) (by kernel_rfl) (fun _ _ _ h => h) (Or.inl ⟨by rfl, ?_⟩) hS ?_
    rotate_left 1
    · intro w' hB; have g6 := GG.out.below hB; have j1 := row2 (g6 _ (List.mem_cons_of_mem _ List.mem_cons_self)); have j2 := row2 (g6 _ (List.mem_cons_of_mem _ (List.mem_cons_of_mem _ List.mem_cons_self))); clear g6; (go_simp <;> with_reducible rfl)
    try simp only [Act.put, List.setIfInBounds_toArray, List.set_cons_zero, List.set_cons_succ]
    refine wpAnyH_done (by kernel_rfl) (NoPanic.normal ?_) _
    go_wp2_with fail
    go_ret2
    exact ⟨by simp [rlF], I9.out.below (Below.refl _ w9).drew, K9.out.drew⟩
  ·
    refine wp_region_noPanic ?_
    refine wp_region_held_drew (S := fun w' => Below w9.heap.size w9 w') (by kernel_rfl) (Below.refl _ _).drew (fun hS => ?_)
    refine wpAnyH_take (i := 0) (oi := ⟨some 51, _, _, _, _, _⟩) (v := ?_) rfl (by kernel_rfl) (by kernel_rfl) (by kernel_rfl) (fun _ _ _ h => h) (Or.inl ⟨by rfl, ?_⟩) hS ?_
    rotate_left 1
    · intro w' hB; have g6 := GG.out.below hB; have j1 := row2 (g6 _ (List.mem_cons_of_mem _ List.mem_cons_self)); have j2 := row2 (g6 _ (List.mem_cons_of_mem _ (List.mem_cons_of_mem _ List.mem_cons_self))); clear g6; (go_simp <;> with_reducible rfl)
    try simp only [Act.put, List.setIfInBounds_toArray, List.set_cons_zero, List.set_cons_succ]
    refine wpAnyH_take (i := 1) (oi := ⟨some 52, _, _, _, _, _⟩) (v := ?_) rfl (by kernel_rfl) (by kernel_rfl) (by kernel_rfl) (fun _ _ _ h => h) (Or.inl ⟨by rfl, ?_⟩) hS ?_
    rotate_left 1
    · intro w' hB; have g6 := GG.out.below hB; have j1 := row2 (g6 _ (List.mem_cons_of_mem _ List.mem_cons_self)); have j2 := row2 (g6 _ (List.mem_cons_of_mem _ (List.mem_cons_of_mem _ List.mem_cons_self))); clear g6; (go_simp <;> with_reducible rfl)
    try simp only [Act.put, List.setIfInBounds_toArray, List.set_cons_zero, List.set_cons_succ]
    refine wpAnyH_take (i := 2) (oi := ⟨some 53, _, _, _, _, _⟩) (v := ?_) rfl (by kernel_rfl) (by kernel_rfl) (by kernel_rfl) (fun _ _ _ h => h) (Or.inl ⟨by rfl, ?_⟩) hS ?_
    rotate_left 1
    · intro w' hB; have g6 := GG.out.below hB; have j1 := row2 (g6 _ (List.mem_cons_of_mem _ List.mem_cons_self)); have j2 := row2 (g6 _ (List.mem_cons_of_mem _ (List.mem_cons_of_mem _ List.mem_cons_self))); clear g6; (go_simp <;> with_reducible rfl)
    try simp only [Act.put, List.setIfInBounds_toArray, List.set_cons_zero, List.set_cons_succ]
    refine wpAnyH_take (i := 3) (oi := ⟨some 54, _, _, _, _, _⟩) (v := ?_) rfl (by kernel_rfl) (by kernel_rfl) (by kernel_rfl) (fun _ _ _ h => h) (Or.inl ⟨by rfl, ?_⟩) hS ?_
    rotate_left 1
    · intro w' hB; have g6 := GG.out.below hB; have j1 := row2 (g6 _ (List.mem_cons_of_mem _ List.mem_cons_self)); have j2 := row2 (g6 _ (List.mem_cons_of_mem _ (List.mem_cons_of_mem _ List.mem_cons_self))); clear g6; (go_simp <;> with_reducible rfl)
    try simp only [Act.put, List.setIfInBounds_toArray, List.set_cons_zero, List.set_cons_succ]
    refine wpAnyH_take (i := 4) (oi := ⟨some 14, _, _, _, _, _⟩) (v := ?_) rfl (by kernel_rfl) (by kernel_rfl) (by kernel_rfl) (fun _ _ _ h => h) (Or.inl ⟨by rfl, ?_⟩) hS ?_
    rotate_left 1
    · intro w' hB; have g6 := GG.out.below hB; have j1 := row2 (g6 _ (List.mem_cons_of_mem _ List.mem_cons_self)); have j2 := row2 (g6 _ (List.mem_cons_of_mem _ (List.mem_cons_of_mem _ List.mem_cons_self))); clear g6; (go_simp <;> with_reducible rfl)
    try simp only [Act.put, List.setIfInBounds_toArray, List.set_cons_zero, List.set_cons_succ]
    refine wpAnyH_take (i := 5) (oi := ⟨some 15, _, _, _, _, _⟩) (v := ?_) rfl (by kernel_rfl) (by kernel_rfl) (by kernel_rfl) (fun _ _ _ h => h) (Or.inl ⟨by rfl, ?_⟩) hS ?_
    rotate_left 1
    · intro w' hB; have g6 := GG.out.below hB; have j1 := row2 (g6 _ (List.mem_cons_of_mem _ List.mem_cons_self)); have j2 := row2 (g6 _ (List.mem_cons_of_mem _ (List.mem_cons_of_mem _ List.mem_cons_self))); clear g6; (go_simp <;> with_reducible rfl)
    try simp only [Act.put, List.setIfInBounds_toArray, List.set_cons_zero, List.set_cons_succ]
    refine wpAnyH_done (by kernel_rfl) (NoPanic.normal ?_) _
    go_wp2_with fail
    go_ret2
    exact ⟨by simp [rlF], I9.out.below (Below.refl _ w9).drew, K9.out.drew⟩
end Go.Proofs.Ytdodkhhlbjamhaa

