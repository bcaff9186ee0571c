
/- Walks: Shared. -/
import Derived.Test.YtikdlhbamdefaaaPmPI
import Derived.RangeFuncKeeps
import Derived.RangeFuncWrites
namespace Go.Proofs.Ytikdlhbamdefaaa
open Go.RowKit Pm
attribute [local go_sem] Oper.semAt_some
theorem ownAtI {β : Type} {B k : Nat} {o : Obj} (hk : k < B) : OwnFrom B (fun (_ : β) W => W.heap[k]? = some o) := by
  rintro _ A A' row h hg hr
  exact (hg.block k (Array.getElem?_eq_some_iff.1 h).1 (fun e => by have := (hr k e.symm).1; omega)).trans h
def Pm.blkOfI : Tr Int → Nat
  | .nil => 0
  | .node b _ _ _ _ => b
theorem nodesL_nodeI : ∀ (t : Tr Int) (x : Tr Int), x ∈ nodesLI t → ∃ b l k v r, x = .node b l k v r ∧ b ∈ blocks t
  | .nil, x, h => by simp [nodesLI] at h
  | .node b l k v r, x, h => by
    simp only [nodesLI, List.mem_append, List.mem_singleton] at h
    rcases h with (h | h) | h
    · obtain ⟨b', l', k', v', r', e, hb⟩ := nodesL_nodeI l x h
      exact ⟨b', l', k', v', r', e, by simp [blocks, hb]⟩
    · obtain ⟨b', l', k', v', r', e, hb⟩ := nodesL_nodeI r x h
      exact ⟨b', l', k', v', r', e, by simp [blocks, hb]⟩
    · exact ⟨b, l, k, v, r, h, by simp [blocks]⟩
theorem nodesL_permI : ∀ (t : Tr Int), ((nodesLI t).map blkOfI).Perm (blocks t)
  | .nil => .nil
  | .node b l k v r => by
    simp only [nodesLI, blocks, List.map_append, List.map_cons, List.map_nil]
    have h1 := nodesL_permI l
    have h2 := nodesL_permI r
    have h3 : ((nodesLI r).map blkOfI ++ [b]).Perm (b :: blocks r) := (List.perm_append_comm (l₁ := (nodesLI r).map blkOfI) (l₂ := [b])).trans (h2.cons b)
    rw [List.append_assoc]
    exact h1.append h3
/-- How many nodes of the one are nodes of the other. -/
def Pm.sharedNI (a b : Tr Int) : Nat := ((nodesLI a).filter fun x => decide (blkOfI x ∈ (nodesLI b).map blkOfI)).length
/-- Between two rounds of the first loop. -/
def ShII (s : Nat) (w : World) (a : Tr Int) (pre : List (Tr Int)) (W : World) : Prop :=
  Boxed W s 26 (.pointer (pa a)) ∧ Boxed W (s + 3) 79 (.map (some (s + 2))) ∧ NodeMapI W (s + 2) (pre.map blkOfI) ∧ Below s w W
theorem shI_ownI (s : Nat) (w : World) (a : Tr Int) (B : Nat) (hs : s ≤ w.heap.size) (hB : s + 4 ≤ B) : OwnFrom B (ShII s w a) := by
  rintro pre A A' row ⟨h1, h2, ⟨es, c, h3, h5⟩, h4⟩ hg hr
  exact ⟨ownAtI (β := Unit) (by omega) () A A' row h1 hg hr, ownAtI (β := Unit) (by omega) () A A' row h2 hg hr, ⟨es, c, ownAtI (β := Unit) (by omega) () A A' row h3 hg hr, h5⟩, ownFrom_below (β := Unit) hs (by omega) () A A' row h4 hg hr⟩
/-- Between two rounds of the second one. -/
def ShKI (s c : Nat) (w : World) (ps : List Nat) (pre : List (Tr Int)) (W : World) : Prop :=
  Boxed W (s + 3) 79 (.map (some (s + 2))) ∧ NodeMapI W (s + 2) ps ∧ Boxed W c 3 (.int .i64 (((pre.filter fun x => decide (blkOfI x ∈ ps)).length : Nat) : Int)) ∧ Below s w W
theorem shK_ownI (s c : Nat) (w : World) (ps : List Nat) (B : Nat) (hs : s ≤ w.heap.size) (hB : s + 4 ≤ B) (hc : c < B) : OwnFrom B (ShKI s c w ps) := by
  rintro pre A A' row ⟨h2, ⟨es, q, h3, h5⟩, h1, h4⟩ hg hr
  exact ⟨ownAtI (β := Unit) (by omega) () A A' row h2 hg hr, ⟨es, q, ownAtI (β := Unit) (by omega) () A A' row h3 hg hr, h5⟩, ownAtI (β := Unit) (by omega) () A A' row h1 hg hr, ownFrom_below (β := Unit) hs (by omega) () A A' row h4 hg hr⟩
set_option maxRecDepth 100000 in
set_option maxHeartbeats 4000000 in
theorem pm_SharedI (a b : Tr Int) (w : World) (ha : AtI w a) (hb : AtI w b) (hnd : (blocks b).Nodup) (hs : sz a ≤ 1099511627776) :
    Calls Try.prog 27 #[.agg #[.pointer (pa a)], .agg #[.pointer (pa b)]] w fun e w' => e = .returned (.int .i64 (sharedNI a b : Int)) ∧ Below w.heap.size w w' := by
  have HA := Lib.hid ha
  have HB := Lib.hid hb
  have HND := Lib.hid hnd
  clear ha hb hnd
  obtain ⟨s, hs0⟩ : ∃ s, s = w.heap.size := ⟨_, rfl⟩
  have hmk := @run_makeMap Try.prog
  refine (callsIn_wide (n := 6)).1 ?_
  refine callsIn_of_wp_marks Try.func27 rfl trivial ?_ rfl
  simp only [Try.ntmps27, List.size_toArray, List.length_cons, List.length_nil, Nat.reduceAdd, Nat.reduceSub, Array.replicate_succ, Array.replicate_zero, List.push_toArray, List.append_toArray, List.nil_append, List.cons_append]
  gi_wp2
  clear hmk
  obtain ⟨W4, hW4⟩ : ∃ W4, (((w.alloc (.cells #[.pointer (pa a)] 26)).alloc (.cells #[.pointer (pa b)] 26)).alloc (.map #[] 0)).alloc (.cells #[.map (some (w.heap.size + 1 + 1))] 79) = W4 := ⟨_, rfl⟩
  have z4 : W4.heap.size = s + 4 := by rw [← hW4, hs0]; simp
  have c1 : Boxed W4 s 26 (.pointer (pa a)) := by rw [← hW4, hs0]; exact (((Boxed.new w _ _).alloc _).alloc _).alloc _
  have c3 : W4.heap[s + 2]? = some (.map #[] 0) := by
    rw [← hW4, hs0]
    have h1 := World.alloc_heap_new ((w.alloc (.cells #[.pointer (pa a)] 26)).alloc (.cells #[.pointer (pa b)] 26)) (.map #[] 0)
    rw [World.size_alloc, World.size_alloc] at h1
    exact (Below.heap_alloc _ _ _ (by simp)).trans h1
  have c4 : Boxed W4 (s + 3) 79 (.map (some (s + 2))) := by
    have h1 := Boxed.new (((w.alloc (.cells #[.pointer (pa a)] 26)).alloc (.cells #[.pointer (pa b)] 26)).alloc (.map #[] 0)) 79 (.map (some (w.heap.size + 1 + 1)))
    rw [World.size_alloc, World.size_alloc, World.size_alloc, hW4, ← hs0] at h1
    exact h1
  have hb4 : Below s w W4 := by rw [← hW4, hs0]; exact ((((Below.refl _ w).alloc (Nat.le_refl _) _).alloc (by simp) _).alloc (by simp; omega) _).alloc (by simp; omega) _
  rw [hW4, ← hs0]
  have HS := Lib.hid hs0
  clear hW4 hs0
  refine ⟨trivial, ?_⟩
  refine (callsIn_wide.2 (pm_MNodesI b W4)).mono ?_
  rintro e W5 ⟨mb, rfl, hmb, hbx, hb5⟩
  have d1 := boxStays c1 hb5
  have d3 : W5.heap[s + 2]? = some (.map #[] 0) := (hb5.block _ (by omega)).trans c3
  have d4 := boxStays c4 hb5
  have D5 : Below s w W5 := hb4.trans (hb5.mono (by omega))
  have z5 : s + 4 ≤ W5.heap.size := by have := hb5.size; omega
  have HIter := pm_nodes_iterI 5 b mb W5 (fun k => k < s) (fun _ => False) hbx (HB.out.below D5 HS.out) (fun k hk => by rw [HS.out]; exact HB.out.lt k hk) (fun k hk => by omega) (fun h => h)
  clear hb5 c1 c3 c4 hb4 hbx z4 hmb
  gi_wp2
  refine range_law2 (n := 6) rfl (enters_of Try.func51 (by kernel_rfl) rfl) HIter (by omega) KeepE.trans (fun W o o' _ _ => KeepE.put W _ o' (by omega) (fun k hk => by omega)) (fun x => rfl) (fun pre => (by rintro _ _ _ _ h _ _; exact h)) ?_ (ShII s w a) (fun _ _ _ => False) (fun xs W => xs = nodesLI b ∧ ShII s w a xs W) (shI_ownI s w a _ (by have := HS.out; omega) z5) (fun _ _ _ _ _ h _ _ => h) ?_ ?_ ⟨d1, d4, ⟨_, _, d3, rfl⟩, D5⟩
    (fun pre x a' W => ShII s w a pre W ∧ pre ++ [x] <+: nodesLI b ∧ a' = { tmps := #[.agg #[.pointer (pa a)], .agg #[.pointer (pa b)], .pointer (some ⟨s, 0, none⟩), .pointer (some ⟨s + 1, 0, none⟩), .int .i64 0, .pointer (some ⟨s + 3, 0, none⟩), .pointer (pa x), undef, undef, .map (some (s + 2)), .agg #[.pointer (pa b)], .func (.func 51) #[] #[.pointer (some ⟨mb, 0, none⟩)], .pointer (pa x), undef, undef, undef, undef, undef, undef, undef, undef, undef, undef, undef], defers := [] }) ?_ ?assign ?body ?done ?stop
  · rintro W1 _ xs A B ⟨_, rfl⟩ k o _ ho _; exact ho
  · rintro xs A A' row ⟨h1, h2⟩ hg hr; exact ⟨h1, shI_ownI s w a _ (by have := HS.out; omega) z5 xs A A' row h2 hg hr⟩
  · rintro W1 _ xs A B h ⟨h1, rfl⟩; exact ⟨h1, h⟩
  · rintro x a' pre A A' row ⟨h1, h2, h3⟩ hg hr
    exact ⟨shI_ownI s w a _ (by have := HS.out; omega) z5 pre A A' row h1 hg hr, h2, h3⟩
  case assign =>
    intro l pre x W K hi hx hsz hK
    have HI := Lib.hid hi
    clear hi
    simp only [encNI, List.zip_toArray, List.zip_cons_cons, List.zip_nil_right, List.foldl_toArray, List.foldl_cons, List.foldl_nil]
    gi_wp2
    exact hK _ _ ⟨Nat.le_refl _, fun _ _ _ h _ => h⟩ (KeepE.refl _) hsz ⟨HI.out, hx, rfl⟩
  case body =>
    rintro l pre x a' W ⟨hI, hp, rfl⟩ hsz
    obtain ⟨b1, b2, b3, b4⟩ := hI
    obtain ⟨bx, lx, kx, vx, rx, rfl, hbx⟩ := nodesL_nodeI b x (hp.subset (by simp))
    have hAW : AtI W b := HB.out.below b4 HS.out
    have hnd := (nodesL_permI b).nodup_iff.2 HND.out
    have hpm : (pre ++ [Tr.node bx lx kx vx rx]).map blkOfI <+: (nodesLI b).map blkOfI := hp.map _
    have hnd2 := hnd.sublist hpm.sublist
    rw [List.map_append, List.nodup_append] at hnd2
    have hnot : bx ∉ pre.map blkOfI := fun hm => hnd2.2.2 bx hm bx (by simp [blkOfI]) rfl
    have hnds : NdsI W (bx :: pre.map blkOfI) := by
      intro q hq
      rcases List.mem_cons.1 hq with rfl | hq
      · exact hAW.nds _ hbx
      · obtain ⟨y, hy, rfl⟩ := List.mem_map.1 hq
        obtain ⟨by', _, _, _, _, rfl, hbb⟩ := nodesL_nodeI b y (hp.subset (by simp [hy]))
        exact hAW.nds _ hbb
    obtain ⟨o, hmu, hnm⟩ := nodeMap_putI b3 bx hnds hnot
    have e4 := cell_of_one b2
    have hpa : pa (.node bx lx kx vx rx : Tr Int) = some ⟨bx, 0, none⟩ := rfl
    have B1 := Lib.hid b1
    have B2 := Lib.hid b2
    have B4 := Lib.hid b4
    have NM := Lib.hid hnm
    have HP := Lib.hid hp
    clear b1 b2 b3 b4 hAW hnd hpm hnd2 hnot hnds hnm hp hbx
    gi_wp2
    refine ⟨⟨by simp, fun k o' hk ho _ => (World.putObj_heap_other (by omega)).trans ho⟩, KeepE.put W _ o (by omega) (fun k hk => by omega), (World.putObj_heap_other (by omega)).trans B1.out, (World.putObj_heap_other (by omega)).trans B2.out, by simpa [blkOfI] using NM.out, B4.out.trans ⟨rfl, rfl, rfl, by simp, fun k hk => World.putObj_heap_other (by omega)⟩⟩
  case done =>
    rintro D xs W1 hD ⟨rfl, hI⟩ hK
    obtain ⟨b1, b2, b3, b4⟩ := hI
    have e1 := cell_of_one b1
    have hDl : D < W1.heap.size := (Array.getElem?_eq_some_iff.1 hK).1
    have HKD := Lib.hid hK
    clear HIter hK d1 d3 d4 D5
    have e1 := cell_of_one (boxStays b1 (below_new W1 (.cells #[.int .i64 0] 3)))
    have B2 := Lib.hid b2
    have B3 := Lib.hid b3
    have B4 := Lib.hid b4
    clear b1 b2 b3 b4
    simp only [Exit.inBlock]
    gi_wp2
    obtain ⟨c, hc⟩ : ∃ c, c = W1.heap.size := ⟨_, rfl⟩
    rw [← hc]
    obtain ⟨W6, hW6⟩ : ∃ W6, W1.alloc (.cells #[.int .i64 0] 3) = W6 := ⟨_, rfl⟩
    rw [hW6]
    have HCC := Lib.hid hc
    have g1 : Boxed W6 c 3 (.int .i64 0) := by rw [← hW6, hc]; exact Boxed.new _ _ _
    have hb6 : Below W1.heap.size W1 W6 := by rw [← hW6]; exact below_new _ _
    clear hW6 e1 hc
    refine ⟨trivial, ?_⟩
    refine (callsIn_wide.2 (pm_MNodesI a W6)).mono ?_
    rintro e W7 ⟨mb2, rfl, hmb2, hbx, hb7⟩
    have hb17 : Below W1.heap.size W1 W7 := hb6.trans (hb7.mono hb6.size)
    have d2 := boxStays B2.out hb17
    have d3 : NodeMapI W7 (s + 2) ((nodesLI b).map blkOfI) := by
      obtain ⟨es, q, h1, h2⟩ := B3.out
      exact ⟨es, q, (hb17.block _ (Array.getElem?_eq_some_iff.1 h1).1).trans h1, h2⟩
    have dK : W7.heap[D]? = some (.deferred (some [])) := (hb17.block _ hDl).trans HKD.out
    have g7 := boxStays g1 hb7
    have hsW1 : s + 4 ≤ W1.heap.size := by omega
    have D7 : Below s w W7 := B4.out.trans (hb17.mono (by omega))
    have z7 : c < W7.heap.size := (Array.getElem?_eq_some_iff.1 g7).1
    have hz17 := hb17.size
    have hsW7 : s + 4 ≤ W7.heap.size := by omega
    have hDW7 : D < W7.heap.size := by omega
    have HIter := pm_nodes_iterI 5 a mb2 W7 (fun k => k < s) (fun _ => False) hbx (HA.out.below D7 HS.out) (fun k hk => by rw [HS.out]; exact HA.out.lt k hk) (fun k hk => by omega) (fun h => h)
    have hcs : s + 4 ≤ c := by have := HCC.out; omega
    have hDc : D ≠ c := by have := HCC.out; omega
    clear hb6 hb7 hb17 hmb2 hbx g1 HKD B2 B3 B4
    gi_wp2
    refine range_law2 (n := 6) rfl (enters_of Try.func51 (by kernel_rfl) rfl) HIter (by omega) KeepE.trans (fun W o o' _ _ => KeepE.put W _ o' (by omega) (fun k hk => by omega)) (fun x => rfl) (fun pre => (by rintro _ _ _ _ h _ _; exact h)) ?_ (fun pre W => ShKI s c w ((nodesLI b).map blkOfI) pre W ∧ W.heap[D]? = some (.deferred (some []))) (fun _ _ _ => False) (fun xs W => xs = nodesLI a ∧ ShKI s c w ((nodesLI b).map blkOfI) xs W ∧ W.heap[D]? = some (.deferred (some [])))
      ((shK_ownI s c w _ _ (by have := HS.out; omega) hsW7 z7).and (ownAtI hDW7)) (fun _ _ _ _ _ h _ _ => h) ?_ ?_ ⟨⟨d2, d3, g7, D7⟩, dK⟩
      (fun pre x a' W => (ShKI s c w ((nodesLI b).map blkOfI) pre W ∧ W.heap[D]? = some (.deferred (some []))) ∧ pre ++ [x] <+: nodesLI a ∧ a' = { tmps := #[.agg #[.pointer (pa a)], .agg #[.pointer (pa b)], .pointer (some ⟨s, 0, none⟩), .pointer (some ⟨s + 1, 0, none⟩), .int .i64 0, .pointer (some ⟨s + 3, 0, none⟩), undef, .pointer (some ⟨c, 0, none⟩), .pointer (pa x), .map (some (s + 2)), .agg #[.pointer (pa b)], .func (.func 51) #[] #[.pointer (some ⟨mb, 0, none⟩)], undef, undef, undef, .agg #[.pointer (pa a)], .func (.func 51) #[] #[.pointer (some ⟨mb2, 0, none⟩)], .pointer (pa x), undef, undef, undef, undef, undef, undef], defers := [] }) ?_ ?assign2  ?body2 ?done2 ?stop2
    case assign2 =>
      intro l pre x W K hi hx hsz hK
      have HI := Lib.hid hi
      clear hi
      simp only [encNI, List.zip_toArray, List.zip_cons_cons, List.zip_nil_right, List.foldl_toArray, List.foldl_cons, List.foldl_nil]
      gi_wp2
      exact hK _ _ ⟨Nat.le_refl _, fun _ _ _ h _ => h⟩ (KeepE.refl _) hsz ⟨HI.out, hx, rfl⟩
    case body2 =>
      rintro l pre x a' W ⟨⟨hI, hKD⟩, hp, rfl⟩ hsz
      obtain ⟨b2, b3, bc, b4⟩ := hI
      obtain ⟨bx, lx, kx, vx, rx, rfl, hbx⟩ := nodesL_nodeI a x (hp.subset (by simp))
      have hAW : AtI W a := HA.out.below b4 HS.out
      have hBW : AtI W b := HB.out.below b4 HS.out
      have hnds : NdsI W (bx :: (nodesLI b).map blkOfI) := by
        intro q hq
        rcases List.mem_cons.1 hq with rfl | hq
        · exact hAW.nds _ hbx
        · exact hBW.nds _ ((nodesL_permI b).mem_iff.1 hq)
      have hlk := nodeMap_lookI b3 bx hnds
      obtain ⟨n, hn⟩ : ∃ n, (pre.filter fun x => decide (blkOfI x ∈ (nodesLI b).map blkOfI)).length = n := ⟨_, rfl⟩
      have hlen : (nodesLI a).length = sz a := by rw [← sz_blocks, ← (nodesL_permI a).length_eq, List.length_map]
      have hnb : n ≤ 1099511627776 := by
        have h1 := List.length_filter_le (fun x => decide (blkOfI x ∈ (nodesLI b).map blkOfI)) pre
        have h2 := hp.length_le
        rw [hn] at h1; simp at h2; omega
      rw [hn] at bc
      have e4 := cell_of_one b2
      have ec := cell_of_one bc
      have fc := bc.frozen
      have hpa : pa (.node bx lx kx vx rx : Tr Int) = some ⟨bx, 0, none⟩ := rfl
      have hnx : ((pre ++ [Tr.node bx lx kx vx rx]).filter fun x => decide (blkOfI x ∈ (nodesLI b).map blkOfI)).length = n + if bx ∈ (nodesLI b).map blkOfI then 1 else 0 := by
        rw [List.filter_append, List.length_append, hn]
        by_cases h : bx ∈ (nodesLI b).map blkOfI
        · rw [if_pos h, List.filter_cons, if_pos (by simpa [blkOfI] using h)]; rfl
        · rw [if_neg h, List.filter_cons, if_neg (by simpa [blkOfI] using h)]; rfl
      have HNX := Lib.hid hnx
      have B2 := Lib.hid b2
      have B3 := Lib.hid b3
      have BC := Lib.hid bc
      have B4 := Lib.hid b4
      have HKD := Lib.hid hKD
      clear b2 b3 bc b4 hAW hBW hnds hn hlen hnx hKD hp hbx
      by_cases hm : bx ∈ (nodesLI b).map blkOfI
      · rw [decide_eq_true hm] at hlk
        have HM := Lib.hid hm
        clear hm
        gi_wp2
        refine ⟨(KeepsOthers.setCell _ _ _).from _, KeepE.setCell W c 0 _ (by omega) (by omega), ⟨B2.out.other (by omega) _, ?_, ?_, B4.out.setCell (p := ⟨c, 0, none⟩) (by simp; omega) _⟩, (Below.heap_setCell _ _ _ _ (by simpa using hDc)).trans HKD.out⟩
        · obtain ⟨es, q, h1, h2⟩ := B3.out
          exact ⟨es, q, (Below.heap_setCell _ _ _ _ (by simp; omega)).trans h1, h2⟩
        · rw [HNX.out, if_pos HM.out]
          have := BC.out.set (.int .i64 ((n : Int) + 1))
          simpa using this
      · rw [decide_eq_false hm] at hlk
        have HM := Lib.hid hm
        clear hm
        gi_wp2
        refine ⟨⟨Nat.le_refl _, fun _ _ _ h _ => h⟩, KeepE.refl _, ⟨B2.out, B3.out, ?_, B4.out⟩, HKD.out⟩
        rw [HNX.out, if_neg HM.out]
        exact BC.out
    case done2 =>
      rintro D2 xs W2 hD2 ⟨rfl, hI, hKD⟩ hK2
      obtain ⟨b2, b3, bc, b4⟩ := hI
      obtain ⟨n, hn⟩ : ∃ n, sharedNI a b = n := ⟨_, rfl⟩
      have hn2 : ((nodesLI a).filter fun x => decide (blkOfI x ∈ (nodesLI b).map blkOfI)).length = n := hn
      rw [hn2] at bc
      have HNN := Lib.hid hn
      have ec := cell_of_one bc
      have HK2 := Lib.hid hK2
      have HKD := Lib.hid hKD
      have B4 := Lib.hid b4
      clear hK2 hKD b2 b3 bc b4 hn hn2
      simp only [Exit.inBlock]
      gi_wp2
      refine ⟨by simp, .inl ⟨_, _, rfl, run_takeDeferred HK2.out, ?_⟩⟩
      have hk3 : (W2.putObj D2 (.deferred none)).heap[D]? = some (.deferred (some [])) := (World.putObj_heap_other (by omega)).trans HKD.out
      refine ⟨by simp, .inl ⟨_, _, rfl, run_takeDeferred hk3, ?_⟩⟩
      refine ⟨.int .i64 (n : Int), by simp [results, Try.results27, go_sem], ?_⟩
      refine ⟨by rw [HNN.out], ?_⟩
      rw [← HS.out]
      refine (B4.out.trans (belowK_b (w := W7) (n₀ := s) (by omega) _ D2 _ _ hD2 HK2.out rfl rfl)).trans ⟨rfl, rfl, rfl, by simp, fun k hk => World.putObj_heap_other (by omega)⟩
    case stop2 =>
      rintro D c pre W1 hD hSp hF hK
      exact hF.elim
    · rintro W1 _ xs A B ⟨_, rfl⟩ k o _ ho _; exact ho
    · rintro xs A A' row ⟨h1, h2, h3⟩ hg hr
      exact ⟨h1, shK_ownI s c w _ _ (by have := HS.out; omega) hsW7 z7 xs A A' row h2 hg hr, ownAtI (β := Unit) hDW7 () A A' row h3 hg hr⟩
    · rintro W1 _ xs A B h ⟨h1, rfl⟩; exact ⟨h1, h⟩
    · rintro x a' pre A A' row ⟨⟨h1, h4⟩, h2, h3⟩ hg hr
      exact ⟨⟨shK_ownI s c w _ _ (by have := HS.out; omega) hsW7 z7 pre A A' row h1 hg hr, ownAtI (β := Unit) hDW7 () A A' row h4 hg hr⟩, h2, h3⟩
  case stop =>
    rintro D c pre W1 hD hSp hF hK
    exact hF.elim
end Go.Proofs.Ytikdlhbamdefaaa

