/- Words, contracts and walks that the proof stands on (OwB13 OwC13 RgP ItP AlA13 OwE13 RqA13 Fn GoA13 EvZ). -/
import Derived.LoopIn
import Derived.LoopNIn
import Derived.OwnWalkIn
import Derived.RangeFuncBound
import Derived.RangeFuncCalls
import Derived.RangeFuncLeaves
import Derived.RangeFuncNested
import Derived.Scope
import Derived.Shelf.Abstract
import Derived.Shelf.RegionOpen
import Derived.TacticsInMore
import Derived.Test.YtnpiepimajippaaRG1
import Derived.Test.YtnpiepimajippaaRG10
import Derived.Test.YtnpiepimajippaaRG4
import Derived.Test.YtnpiepimajippaaRG8
import Derived.WalkKit
import Derived.WalkMore
namespace Go.Proofs.Ytnpiepimajippaa
open Go.RowKit St Pm
attribute [local go_sem] Oper.semAt_some
def OwI13 (H : List (Nat × Obj)) (c B : Nat) (w : World) (pre : List (ByteArray × ByteArray)) (W : World) : Prop :=
  (∀ p ∈ pre, goodP p = true) ∧ (∃ v, Boxed W c 22 v ∧ W.ownsRow B 47 6 v pre.length (elsV (pre.map decV)) ∧ True) ∧ Facts H W ∧ Below w.heap.size w W
theorem owI_own13 {H : List (Nat × Obj)} {c B : Nat} {w : World} {M : Nat} (hH : ∀ p ∈ H, p.1 < M) (hw : w.heap.size ≤ M) : OwnFrom M (OwI13 H c B w) := by
  rintro pre A A' row ⟨h1, h2, h3, h4⟩ hg hr
  exact ⟨h1, (holdsRow_own B c _ _ 6 (fun pre : List (ByteArray × ByteArray) => pre.length) (fun pre => elsV (pre.map decV)) (fun _ _ => True)).from M pre A A' row h2 hg hr, facts_own (β := Unit) H M hH () A A' row h3 hg hr, ownFrom_below (β := Unit) (Nat.le_refl _) hw () A A' row h4 hg hr⟩
def OwX13 (H : List (Nat × Obj)) (c : Nat) (w : World) (pre : List (ByteArray × ByteArray)) (W : World) : Prop :=
  (∃ p ∈ pre, goodP p = false) ∧ Boxed W c 22 (.slice none 0 0) ∧ Facts H W ∧ Below w.heap.size w W
theorem owX_own13 {H : List (Nat × Obj)} {c : Nat} {w : World} {M : Nat} (hH : ∀ p ∈ H, p.1 < M) (hc : c < M) (hw : w.heap.size ≤ M) : OwnFrom M (OwX13 H c w) := by
  rintro pre A A' row ⟨h1, h2, h3, h4⟩ hg hr
  exact ⟨h1, own_block (β := Unit) hc () A A' row h2 hg hr, facts_own (β := Unit) H M hH () A A' row h3 hg hr, ownFrom_below (β := Unit) (Nat.le_refl _) hw () A A' row h4 hg hr⟩
set_option maxRecDepth 100000 in
set_option maxHeartbeats 4000000 in
theorem own_13 (tr : Tr ByteArray) (w : World) (h : AtS w tr) (hz : sz tr ≤ 100000) (hk : ∀ p ∈ items tr, p.1.size ≤ 9223372036854775807) :
    Calls Try.prog 110 #[.agg #[.pointer (pa tr)]] w fun e w' =>
      ∃ v b, e = .returned (.tuple #[v, .bool b]) ∧ Below w.heap.size w w' ∧
        ((b = true ∧ (∀ p ∈ items tr, goodP p = true) ∧ w'.ownsRow w.heap.size 47 6 v (items tr).length (elsV ((items tr).map decV))) ∨
         (b = false ∧ v = .slice none 0 0 ∧ ∃ p ∈ items tr, goodP p = false)) := by
  obtain ⟨z, hz0⟩ : ∃ z, w.heap.size = z := ⟨_, rfl⟩
  have HT := Lib.hid h
  have HK := Lib.hid hk
  clear h hk
  refine (callsIn_wide (n := 6)).1 ?_
  refine callsIn_of_wp_marks Try.func110 rfl trivial ?_ rfl
  simp only [Try.ntmps110, List.size_toArray, List.length_cons, List.length_nil, Nat.reduceAdd, Nat.reduceSub, Array.replicate_succ, Array.replicate_zero, List.push_toArray, List.append_toArray, List.nil_append, List.cons_append]
  refine wpIn_wide.2 ?_
  go_upto_region 1 with (fail)
  go_step3
  go_wp2_with fail
  go_step3
  go_wp2_with fail
  obtain ⟨w3, hw3⟩ : ∃ W, allocs w [.cells #[.pointer (pa tr)] 27, .cells #[.slice none 0 0] 22, .cells #[.func (.func 135) #[] #[.pointer (some ⟨z + 1, 0, none⟩)]] 132] = W := ⟨_, rfl⟩
  rw [show ((w.alloc (.cells #[.pointer (pa tr)] 27)).alloc (.cells #[.slice none 0 0] 22)).alloc (.cells #[.func (.func 135) #[] #[.pointer (some ⟨z + 1, 0, none⟩)]] 132) = w3 from hw3]
  have hb3 : Below w.heap.size w w3 := by rw [← hw3]; exact allocs_below _ _
  have hx3 : ∀ i ob, [Obj.cells #[.pointer (pa tr)] 27, .cells #[.slice none 0 0] 22, .cells #[.func (.func 135) #[] #[.pointer (some ⟨z + 1, 0, none⟩)]] 132][i]? = some ob → w3.heap[z + i]? = some ob := fun i ob h => by have := allocs_get _ w i ob h; rw [hw3, hz0] at this; exact this
  have F3 : Hid (Facts [(z, .cells #[.pointer (pa tr)] 27 (0, 0)), (z + 1 + 1, .cells #[.func (.func 135) #[] #[.pointer (some ⟨z + 1, 0, none⟩)]] 132 (0, 0))] w3) := Lib.hid (fun p hp => by
    simp only [List.mem_cons, List.not_mem_nil, or_false] at hp
    rcases hp with rfl | rfl
    · exact hx3 0 _ rfl
    · exact hx3 2 _ rfl)
  have Y3 : Hid (Boxed w3 (z + 1) 22 (.slice none 0 0)) := Lib.hid (hx3 1 _ rfl)
  have B3 := Lib.hid hb3
  have hz3 : z + 3 ≤ w3.heap.size := by have := (Array.getElem?_eq_some_iff.1 (hx3 2 _ rfl)).1; omega
  clear hb3 hx3 hw3
  refine (pm_MAllS tr w3).mono ?_
  rintro e w5 ⟨kb, mb, rfl, hkb, hmb, hbk, hbm, hb⟩
  have hT5 := HT.out.below (B3.out.trans (hb.mono B3.out.size)) rfl
  have hF5 := F3.out.below hb
  have hY5 := boxStays Y3.out hb
  have hW5 : Below w.heap.size w w5 := B3.out.trans (hb.mono B3.out.size)
  have hz5 : z + 3 ≤ w5.heap.size := by have := hb.size; omega
  obtain ⟨H, hH⟩ : ∃ H : List (Nat × Obj), [(z, .cells #[.pointer (pa tr)] 27 (0, 0)), (z + 1 + 1, .cells #[.func (.func 135) #[] #[.pointer (some ⟨z + 1, 0, none⟩)]] 132 (0, 0))] = H := ⟨_, rfl⟩
  have hHz : ∀ p ∈ H, p.1 < z + 3 ∧ p.1 ≠ z + 1 := by
    intro p hp
    rw [← hH] at hp
    simp only [List.mem_cons, List.not_mem_nil, or_false] at hp
    rcases hp with rfl | rfl <;> simp
  have hHm : (z, Obj.cells #[.pointer (pa tr)] 27 (0, 0)) ∈ H ∧ (z + 1 + 1, Obj.cells #[.func (.func 135) #[] #[.pointer (some ⟨z + 1, 0, none⟩)]] 132 (0, 0)) ∈ H := by rw [← hH]; simp
  have hSlt : ∀ k, (k = kb ∨ k ∈ blocks tr) → k < w5.heap.size := fun k hk => by
    rcases hk with rfl | hk
    · exact (Array.getElem?_eq_some_iff.1 hbk).1
    · exact hT5.lt k hk
  have hSB : ∀ k, (k = kb ∨ k ∈ blocks tr) → k < w5.heap.size ∧ k ≠ z + 1 := fun k hk => ⟨hSlt k hk, by
    rcases hk with rfl | hk
    · omega
    · have := HT.out.lt k hk; omega⟩
  have HIter := pm_from_iterS 5 ⟨#[]⟩ tr kb mb w5 (fun k => k = kb ∨ k ∈ blocks tr) (fun x => x = 47) hbk hbm hT5 (.inl rfl) (fun k hk => .inr hk) hSlt (by decide) (by decide)
  rw [fromL_all] at HIter
  have r5 : OwI13 H (z + 1) w5.heap.size w [] w5 := ⟨fun p hp => (by cases hp), ⟨_, hY5, World.ownsRow_nil _ _ _ _, trivial⟩, by rw [← hH]; exact hF5, hW5⟩
  have OWN : ∀ B, w5.heap.size ≤ B → OwnFrom B (OwI13 H (z + 1) w5.heap.size w) := fun B hB => owI_own13 (fun p hp => by have := (hHz p hp).1; omega) (by omega)
  clear hT5 hF5 hY5 hW5 hb hbk hbm
  go_wp2_with fail
  refine (wpIn_wide (n := 6)).1 ?_
  have HH := Lib.hid hHm
  clear F3 Y3 B3 hH hHm
  refine range_law2 (n := 6) rfl (enters_of Try.func139 (by kernel_rfl) rfl) HIter (by omega) KeepE.trans (fun W o o' _ _ => KeepE.put W _ o' (by omega) (fun k hk => by have := hSlt k hk; omega)) (fun x => rfl) (fun pre => (by rintro _ _ _ _ h _ _; exact h)) ?_ (OwI13 H (z + 1) w5.heap.size w) (fun c pre W => c = .exit 0 ∧ OwX13 H (z + 1) w pre W) (fun xs W => xs = items tr ∧ OwI13 H (z + 1) w5.heap.size w xs W) (OWN _ (Nat.le_refl _)) ?_ ?_ ?_ r5
    (fun pre q a' W => OwI13 H (z + 1) w5.heap.size w pre W ∧ pre ++ [q] <+: items tr ∧ a' = { tmps := #[.agg #[.pointer (pa tr)], .pointer (some ⟨z, 0, none⟩), .slice none 0 0, .bool false, .pointer (some ⟨z + 1, 0, none⟩), .pointer (some ⟨z + 1 + 1, 0, none⟩), .string q.1, .string q.2, undef, undef, .func (.func 135) #[] #[.pointer (some ⟨z + 1, 0, none⟩)], .agg #[.pointer (pa tr)], .func (.func 139) #[] #[.pointer (some ⟨kb, 0, none⟩), .pointer (some ⟨mb, 0, none⟩)], .string q.1, .string q.2, undef, undef, undef, undef, undef, undef, undef, undef, undef, undef, undef, undef, undef, undef, undef, undef, undef, undef, undef, undef, undef, undef], defers := [] }) ?_ ?assign ?body ?done ?stop
  · rintro W1 _ xs A B ⟨_, rfl⟩ k o _ ho _; exact ho
  · rintro c xs A A' row ⟨h1, h2⟩ hg hr
    exact ⟨h1, owX_own13 (fun p hp => by have := (hHz p hp).1; omega) (by omega) (by omega) xs A A' row h2 hg hr⟩
  · rintro xs A A' row ⟨h1, h2⟩ hg hr
    exact ⟨h1, OWN _ (Nat.le_refl _) xs A A' row h2 hg hr⟩
  · rintro W1 _ xs A B h ⟨h1, rfl⟩; exact ⟨h1, h⟩
  · rintro q a' pre A A' row ⟨h1, h2, h3⟩ hg hr
    exact ⟨OWN _ (Nat.le_refl _) pre A A' row h1 hg hr, h2, h3⟩
  case assign =>
    intro l pre q W K hi hx hsz hK
    have HI := Lib.hid hi
    clear hi
    simp only [encKVS, List.zip_toArray, List.zip_cons_cons, List.zip_nil_right, List.foldl_toArray, List.foldl_cons, List.foldl_nil]
    gi_wp2
    exact hK _ _ ⟨Nat.le_refl _, fun _ _ _ h _ => h⟩ (KeepE.refl _) hsz ⟨HI.out, hx, rfl⟩
  case body =>
    rintro l pre ⟨k, v⟩ a' W ⟨⟨h1, ⟨u, h2, h3, _⟩, h4, h5⟩, hp, rfl⟩ hsz
    have hmem : (k, v) ∈ items tr := hp.subset (by simp)
    have hks := HK.out _ hmem
    have hpl : pre.length + 1 ≤ sz tr := by have := hp.length_le; rw [sz_items] at this; simpa using this
    have G9 := Lib.hid h1
    have Y9 := Lib.hid h2
    have R9 := Lib.hid h3
    have F9 := Lib.hid h4
    have B9 := Lib.hid h5
    have hSW : ∀ k', (k' = kb ∨ k' ∈ blocks tr) → k' < W.heap.size := fun k' hk' => Nat.lt_of_lt_of_le (hSlt k' hk') hsz
    have BAD : Hid (∀ (X : World) (u' : Value), Below W.heap.size W X → Boxed X (z + 1) 22 u' → goodP (k, v) = false →
        KeepsFrom w5.heap.size W (X.setCell ⟨z + 1, 0, none⟩ (.slice none 0 0)) ∧ KeepE (w5.heap.size + 2) (fun k => k = kb ∨ k ∈ blocks tr) (fun x => x = 47) W (X.setCell ⟨z + 1, 0, none⟩ (.slice none 0 0)) ∧ OwX13 H (z + 1) w (pre ++ [(k, v)]) (X.setCell ⟨z + 1, 0, none⟩ (.slice none 0 0))) := Lib.hid (fun X u' hX hY hbad =>
      ⟨⟨by simpa [World.setCell] using hX.size, fun k' o2 hk' ho2 hc => (Below.heap_setCell _ _ _ _ (by simp; omega)).trans ((hX.block k' (Array.getElem?_eq_some_iff.1 ho2).1).trans ho2)⟩,
        (KeepE.below hX hSW).trans (KeepE.setCell X (z + 1) 0 _ (by omega) (fun h => (hSB _ h).2 rfl)),
        ⟨(k, v), by simp, hbad⟩, Boxed.set _ hY, (F9.out.below hX).setCell (fun p hp => (hHz p hp).2) _, (B9.out.trans (hX.mono B9.out.size)).setCell (p := ⟨z + 1, 0, none⟩) (by simp; omega) _⟩)
    clear HIter r5 OWN h1 h2 h3 h4 h5 hp hmem
    gi_wp2
    refine ⟨trivial, ?_⟩
    refine (CallsIn.inRound l (callsIn_wide.2 (stp_OfKey k W hks))).mono ?_
    rintro e W2 ⟨rfl, hb⟩
    have bb : Below W.heap.size W W2 := hb
    rcases hok : ofK k with _ | s
    · have hbad : goodP (k, v) = false := by unfold goodP; rw [hok]; rfl
      have BD := Lib.hid hbad
      have Y2 := Lib.hid (boxStays Y9.out hb)
      have BB := Lib.hid bb
      clear hbad hok hb bb
      simp only [stO]
      have c2 := cell_of_one (boxStays Y2.out (below_new W2 (.cells #[.int .i64 0, .int .i64 0, .string ⟨#[]⟩, .int .i64 0, .int .i64 0] 41)))
      have f2 := frozen_of_row _ (z + 1) 0 _ _ (boxStays Y2.out (below_new W2 (.cells #[.int .i64 0, .int .i64 0, .string ⟨#[]⟩, .int .i64 0, .int .i64 0] 41)))
      gi_wp2
      refine ⟨trivial, ?_⟩
      gi_wp2
      exact (fun h => ⟨h.1, h.2.1, rfl, h.2.2⟩) (BAD.out _ _ (BB.out.alloc (by have := BB.out.size; omega) _) (boxStays Y2.out (below_new W2 _)) BD.out)
    · have Y2 := Lib.hid (boxStays Y9.out hb)
      have BB := Lib.hid bb
      have OK := Lib.hid hok
      clear hok hb bb
      simp only [stO, stA]
      gi_wp2
      refine ⟨trivial, ?_⟩
      refine (CallsIn.inRound l (callsIn_wide.2 (fits13 v _))).mono ?_
      rintro e W3 ⟨rfl, rfl⟩
      by_cases hv : v.size ≤ 256
      · have hgood : goodP (k, v) = true := by unfold goodP; rw [OK.out]; simpa using hv
        have GD := Lib.hid hgood
        have hv' : decide (v.size ≤ 256) = true := by simpa using hv
        rw [hv']
        clear hgood hv hv'
        have bS := below_new W2 (.cells #[.int .i64 s.g, .int .i64 s.r, .string s.l, .int .i64 s.n, .int .i64 s.i] 41)
        have xS := heap_alloc_new W2 (.cells #[.int .i64 s.g, .int .i64 s.r, .string s.l, .int .i64 s.n, .int .i64 s.i] 41)
        have BS : Hid (Below W.heap.size W (W2.alloc (.cells #[.int .i64 s.g, .int .i64 s.r, .string s.l, .int .i64 s.n, .int .i64 s.i] 41))) := Lib.hid (BB.out.trans (bS.mono BB.out.size))
        generalize W2.alloc (.cells #[.int .i64 s.g, .int .i64 s.r, .string s.l, .int .i64 s.n, .int .i64 s.i] 41) = W3 at *
        have q0 := cell_of_row _ _ 0 _ _ _ xS
        have q1 := cell_of_row _ _ 1 _ _ _ xS
        have q2 := cell_of_row _ _ 2 _ _ _ xS
        have q3 := cell_of_row _ _ 3 _ _ _ xS
        have q4 := cell_of_row _ _ 4 _ _ _ xS
        have qf := cell_of_one (F9.out.below BS.out _ HH.out.2)
        clear bS xS Y2
        gi_wp2
        refine ⟨trivial, ?_⟩
        refine (CallsIn.inRound l (callsIn_wide.2 (own1_13 s v (z + 1) w5.heap.size pre.length u _ W3 (boxStays Y9.out BS.out) (own_later R9.out BS.out (Nat.le_refl _)) (Nat.le_trans hsz BS.out.size) (by omega) (by omega)))).mono ?_
        rintro e W4 ⟨u', rfl, hY4, hR4, hRK⟩
        have RK := RowKeep.after BS.out hRK
        have hdec : decV (k, v) = (s, v) := by unfold decV; rw [OK.out]; rfl
        have hrow : W4.ownsRow w5.heap.size 47 6 u' (pre ++ [(k, v)]).length (elsV ((pre ++ [(k, v)]).map decV)) := by
          have e1 : elsV ((pre ++ [(k, v)]).map decV) = elsV (pre.map decV) ++ elV (s, v) := by simp [elsV, hdec]
          rw [e1, List.length_append, List.length_singleton]
          exact hR4
        have hfin : KeepsFrom w5.heap.size W W4 ∧ KeepE (w5.heap.size + 2) (fun k => k = kb ∨ k ∈ blocks tr) (fun x => x = 47) W W4 ∧ OwI13 H (z + 1) w5.heap.size w (pre ++ [(k, v)]) W4 :=
          ⟨RK.from Y9.out R9.out _, RowKeep.keepE (t := 47) (u := u) RK R9.out hSB hSW (by omega), fun p hp => by
            rcases List.mem_append.1 hp with hp | hp
            · exact G9.out p hp
            · rw [List.mem_singleton.1 hp]; exact GD.out, ⟨u', hY4, hrow, trivial⟩, RK.facts F9.out (fun p hp => (hHz p hp).2) R9.out (fun p hp => by have := (hHz p hp).1; omega), B9.out.trans (RK.below (by omega) R9.out (by omega) B9.out.size)⟩
        have FIN := Lib.hid hfin
        clear RK hRK hY4 hR4 hrow hfin hdec
        gi_wp2
        exact FIN.out
      · have hbad : goodP (k, v) = false := by unfold goodP; rw [OK.out]; simpa using hv
        have BD := Lib.hid hbad
        have hv' : decide (v.size ≤ 256) = false := by simpa using hv
        rw [hv']
        clear hbad hv hv'
        have c2 := cell_of_one (boxStays Y2.out (below_new W2 (.cells #[.int .i64 s.g, .int .i64 s.r, .string s.l, .int .i64 s.n, .int .i64 s.i] 41)))
        have f2 := frozen_of_row _ (z + 1) 0 _ _ (boxStays Y2.out (below_new W2 (.cells #[.int .i64 s.g, .int .i64 s.r, .string s.l, .int .i64 s.n, .int .i64 s.i] 41)))
        gi_wp2
        exact (fun h => ⟨h.1, h.2.1, rfl, h.2.2⟩) (BAD.out _ _ (BB.out.alloc (by have := BB.out.size; omega) _) (boxStays Y2.out (below_new W2 _)) BD.out)
  case done =>
    rintro D xs W1 hD ⟨rfl, h1, ⟨u, h2, h3, _⟩, h4, h5⟩ hK
    obtain ⟨n, hn⟩ : ∃ n, sz tr = n := ⟨_, rfl⟩
    have HN := Lib.hid hn
    rw [sz_items, hn] at h3
    obtain ⟨a6, cp6, hv6, _⟩ := own_slice h3
    subst hv6
    have R9 := Lib.hid h3
    have G9 := Lib.hid h1
    clear h1 h3 hn
    have F9 := Lib.hid h4
    have B9 := Lib.hid h5
    have hT1 := Lib.hid (HT.out.below h5 rfl)
    have Y9 := Lib.hid h2
    have HKD := Lib.hid hK
    clear HIter r5 OWN h2 h4 h5 hK
    simp only [Exit.inBlock]
    go_upto_region 10 with (fail)
    refine relG_start (slots := [31, 32, 33, 34, 35, 36, 2, 3]) (so := []) (by kernel_rfl) (by kernel_rfl) (by rfl) ?_
    refine relG_pure (i := 0) (o := ⟨some 31, _, _, _, _, _⟩) (v := ?v1) [] [4] rfl rfl (by kernel_rfl) (by kernel_rfl) (fun t w1 hB hf hbf => ?y1) ?n1
    case y1 =>
      simp only [DepF, BasF, List.getD_cons_zero, List.getD_cons_succ] at hbf
      clear hf
      obtain ⟨⟨b4, k4⟩, _⟩ := hbf
      have k1 := cell_of_one (boxStays Y9.out hB)
      have k0 := cell_of_one (F9.out.below hB _ HH.out.1)
      refine Or.inl ⟨wanted_none rfl, ?_⟩
      rintro _ rfl
      go_simp <;> with_reducible rfl
    refine relG_pure (i := 1) (o := ⟨some 32, _, _, _, _, _⟩) (v := ?v2) [] [4] rfl rfl (by kernel_rfl) (by kernel_rfl) (fun t w1 hB hf hbf => ?y2) ?n2
    case y2 =>
      simp only [DepF, BasF, List.getD_cons_zero, List.getD_cons_succ] at hbf
      clear hf
      obtain ⟨⟨b4, k4⟩, _⟩ := hbf
      have k1 := cell_of_one (boxStays Y9.out hB)
      have k0 := cell_of_one (F9.out.below hB _ HH.out.1)
      refine Or.inl ⟨wanted_none rfl, ?_⟩
      rintro _ rfl
      go_simp <;> with_reducible rfl
    refine relG_pure (i := 2) (o := ⟨some 33, _, _, _, _, _⟩) (v := ?v3) [(1, 32, 0)] [] rfl rfl (by kernel_rfl) (by kernel_rfl) (fun t w1 hB hf hbf => ?y3) ?n3
    case y3 =>
      simp only [DepF, BasF, List.getD_cons_zero, List.getD_cons_succ] at hf
      obtain ⟨⟨_, ⟨e32, i32⟩, rfl⟩, _⟩ := hf
      clear hbf
      have k1 := cell_of_one (boxStays Y9.out hB)
      have k0 := cell_of_one (F9.out.below hB _ HH.out.1)
      refine Or.inl ⟨wanted_none rfl, ?_⟩
      rintro _ rfl
      go_simp <;> with_reducible rfl
    refine relG_pure (i := 3) (o := ⟨some 34, _, _, _, _, _⟩) (v := ?v4) [] [1] rfl rfl (by kernel_rfl) (by kernel_rfl) (fun t w1 hB hf hbf => ?y4) ?n4
    case y4 =>
      simp only [DepF, BasF, List.getD_cons_zero, List.getD_cons_succ] at hbf
      clear hf
      obtain ⟨⟨b1, k1⟩, _⟩ := hbf
      have k1 := cell_of_one (boxStays Y9.out hB)
      have k0 := cell_of_one (F9.out.below hB _ HH.out.1)
      refine Or.inl ⟨wanted_none rfl, ?_⟩
      rintro _ rfl
      go_simp <;> with_reducible rfl
    refine relG_call (i := 4) (o := ⟨some 35, _, _, _, _, _⟩) ((fun v _ => v = .int .i64 (n : Int))) [(3, 34, 0)] [] rfl rfl (by kernel_rfl) (by kernel_rfl) ((fun _ _ _ h _ => h)) ?_ ?_
    · intro t w1 hB hf hbf K hK
      simp only [DepF, BasF, List.getD_cons_zero, List.getD_cons_succ] at hf
      obtain ⟨⟨_, ⟨e34, i34⟩, rfl⟩, _⟩ := hf
      clear hbf
      have k1 := cell_of_one (boxStays Y9.out hB)
      have k0 := cell_of_one (F9.out.below hB _ HH.out.1)
      refine ⟨wanted_none rfl, ?_⟩
      go_simp
      refine (HN.out ▸ pm_MLenS tr w1 (hT1.out.below hB rfl)).mono ?_
      rintro e w2 ⟨rfl, hb⟩
      exact hK.out _ w2 (rfl) hb
    refine relG_pure (i := 5) (o := ⟨some 36, _, _, _, _, _⟩) (v := ?v5) [(2, 33, 2), (4, 35, 0)] [] rfl rfl (by kernel_rfl) (by kernel_rfl) (fun t w1 hB hf hbf => ?y5) ?n5
    case y5 =>
      simp only [DepF, BasF, List.getD_cons_zero, List.getD_cons_succ] at hf
      obtain ⟨⟨_, ⟨e33, i33⟩, rfl⟩, ⟨_, ⟨e35, i35⟩, rfl⟩, _⟩ := hf
      clear hbf
      have k1 := cell_of_one (boxStays Y9.out hB)
      have k0 := cell_of_one (F9.out.below hB _ HH.out.1)
      refine Or.inl ⟨wanted_none rfl, ?_⟩
      rintro _ rfl
      go_simp <;> with_reducible rfl
    refine relG_pure (i := 6) (o := ⟨some 2, _, _, _, _, _⟩) (v := ?v6) [(0, 31, 5)] [] rfl rfl (by kernel_rfl) (by kernel_rfl) (fun t w1 hB hf hbf => ?y6) ?n6
    case y6 =>
      simp only [DepF, BasF, List.getD_cons_zero, List.getD_cons_succ] at hf
      obtain ⟨⟨_, ⟨e31, i31⟩, rfl⟩, _⟩ := hf
      clear hbf
      have k1 := cell_of_one (boxStays Y9.out hB)
      have k0 := cell_of_one (F9.out.below hB _ HH.out.1)
      refine Or.inl ⟨wanted_none rfl, ?_⟩
      rintro _ rfl
      go_simp <;> with_reducible rfl
    refine relG_pure (i := 7) (o := ⟨some 3, _, _, _, _, _⟩) (v := ?v7) [(5, 36, 1)] [] rfl rfl (by kernel_rfl) (by kernel_rfl) (fun t w1 hB hf hbf => ?y7) ?n7
    case y7 =>
      simp only [DepF, BasF, List.getD_cons_zero, List.getD_cons_succ] at hf
      obtain ⟨⟨_, ⟨e36, i36⟩, rfl⟩, _⟩ := hf
      clear hbf
      have k1 := cell_of_one (boxStays Y9.out hB)
      have k0 := cell_of_one (F9.out.below hB _ HH.out.1)
      refine Or.inl ⟨wanted_none rfl, ?_⟩
      rintro _ rfl
      go_simp <;> with_reducible rfl
    refine relG_done [(0, 31, 7), (1, 32, 6), (2, 33, 5), (3, 34, 4), (4, 35, 3), (5, 36, 2), (6, 2, 1), (7, 3, 0)] (by kernel_rfl) rfl (by kernel_rfl) (fun f wE hB hf => ?_)
    simp only [FinF, List.getD_cons_zero, List.getD_cons_succ] at hf
    obtain ⟨⟨_, e31, rfl⟩, ⟨_, e32, rfl⟩, ⟨_, e33, rfl⟩, ⟨_, e34, rfl⟩, ⟨_, e35, rfl⟩, ⟨_, e36, rfl⟩, ⟨_, e2, rfl⟩, ⟨_, e3, rfl⟩, _⟩ := hf
    simp only [regT, List.foldl_cons, List.foldl_nil, List.setIfInBounds_toArray, List.set_cons_zero, List.set_cons_succ, e31, e32, e33, e34, e35, e36, e2, e3]
    clear e31 e32 e33 e34 e35 e36 e2 e3
    have hDE : wE.heap[D]? = some (.deferred (some [])) := (hB.block D (Array.getElem?_eq_some_iff.1 HKD.out).1).trans HKD.out
    have BE := Lib.hid (B9.out.trans (hB.mono B9.out.size))
    have HDE := Lib.hid hDE
    have HBE := Lib.hid hB
    clear hB hDE
    go_wp2_with fail
    try rw [Exit.noGoto_ret]
    show LeavesInM _ _ _ _ _ _ (marks [D]) _ _
    refine leaves_marks [D] _ (by simp) (fun p hp => ?_) ?_
    · obtain rfl : p = (D, .deferred (some [])) := by simpa [markF] using hp
      exact HDE.out
    · intro W' e1 e2 e3 e4 e5
      have bW : Below w.heap.size w W' := ⟨e1.trans BE.out.os, e2.trans BE.out.tape, e3.trans BE.out.output, by rw [e4]; exact BE.out.size, fun k hk => (e5 k (by simp; omega)).trans (BE.out.block k hk)⟩
      refine ⟨.tuple #[.slice a6 n cp6, .bool true], by simp [results, Try.results110, go_sem], _, _, rfl, bW, .inl ⟨rfl, G9.out, ?_⟩⟩
      rw [sz_items, HN.out]
      have r1 := own_later R9.out HBE.out (Nat.le_refl _)
      refine own_mono (own_grown (row := some D) r1 ⟨e1, e2, e3, Nat.le_of_eq e4.symm, fun k _ hne => e5 k (by simp; exact fun e => hne (by rw [e]))⟩ (fun k hk e => ?_)) (by omega)
      obtain rfl : D = k := Option.some.inj e
      rcases r1.2 with ⟨h9, _⟩ | ⟨g, cap, cur, h9, _, hgb, _⟩
      · rw [h9] at hk; simp [Value.ownBlock] at hk
      · rw [h9] at hk
        obtain rfl : g = D := by simpa [Value.ownBlock] using hk
        rw [HDE.out] at hgb
        cases hgb
  case stop =>
    rintro D c pre W1 hD hSp ⟨rfl, ⟨q, hq1, hq2⟩, h2, h4, h5⟩ hK
    obtain ⟨n, hn⟩ : ∃ n, sz tr = n := ⟨_, rfl⟩
    have HN := Lib.hid hn
    have hq3 := hSp.subset hq1
    have hn0 : n ≠ 0 := fun e => by rw [← hn, ← sz_items] at e; rw [List.eq_nil_of_length_eq_zero e] at hq3; cases hq3
    have h0n : ((0 : Int) == (n : Int)) = false := by simp; omega
    clear hn hn0
    have F9 := Lib.hid h4
    have B9 := Lib.hid h5
    have hT1 := Lib.hid (HT.out.below h5 rfl)
    have Y9 := Lib.hid h2
    have HKD := Lib.hid hK
    clear HIter r5 OWN h2 h4 h5 hK
    gi_wp2
    go_upto_region 10 with (fail)
    refine relG_start (slots := [31, 32, 33, 34, 35, 36, 2, 3]) (so := []) (by kernel_rfl) (by kernel_rfl) (by rfl) ?_
    refine relG_pure (i := 0) (o := ⟨some 31, _, _, _, _, _⟩) (v := ?v8) [] [4] rfl rfl (by kernel_rfl) (by kernel_rfl) (fun t w1 hB hf hbf => ?y8) ?n8
    case y8 =>
      simp only [DepF, BasF, List.getD_cons_zero, List.getD_cons_succ] at hbf
      clear hf
      obtain ⟨⟨b4, k4⟩, _⟩ := hbf
      have k1 := cell_of_one (boxStays Y9.out hB)
      have k0 := cell_of_one (F9.out.below hB _ HH.out.1)
      refine Or.inl ⟨wanted_none rfl, ?_⟩
      rintro _ rfl
      go_simp <;> with_reducible rfl
    refine relG_pure (i := 1) (o := ⟨some 32, _, _, _, _, _⟩) (v := ?v9) [] [4] rfl rfl (by kernel_rfl) (by kernel_rfl) (fun t w1 hB hf hbf => ?y9) ?n9
    case y9 =>
      simp only [DepF, BasF, List.getD_cons_zero, List.getD_cons_succ] at hbf
      clear hf
      obtain ⟨⟨b4, k4⟩, _⟩ := hbf
      have k1 := cell_of_one (boxStays Y9.out hB)
      have k0 := cell_of_one (F9.out.below hB _ HH.out.1)
      refine Or.inl ⟨wanted_none rfl, ?_⟩
      rintro _ rfl
      go_simp <;> with_reducible rfl
    refine relG_pure (i := 2) (o := ⟨some 33, _, _, _, _, _⟩) (v := ?v10) [(1, 32, 0)] [] rfl rfl (by kernel_rfl) (by kernel_rfl) (fun t w1 hB hf hbf => ?y10) ?n10
    case y10 =>
      simp only [DepF, BasF, List.getD_cons_zero, List.getD_cons_succ] at hf
      obtain ⟨⟨_, ⟨e32, i32⟩, rfl⟩, _⟩ := hf
      clear hbf
      have k1 := cell_of_one (boxStays Y9.out hB)
      have k0 := cell_of_one (F9.out.below hB _ HH.out.1)
      refine Or.inl ⟨wanted_none rfl, ?_⟩
      rintro _ rfl
      go_simp <;> with_reducible rfl
    refine relG_pure (i := 3) (o := ⟨some 34, _, _, _, _, _⟩) (v := ?v11) [] [1] rfl rfl (by kernel_rfl) (by kernel_rfl) (fun t w1 hB hf hbf => ?y11) ?n11
    case y11 =>
      simp only [DepF, BasF, List.getD_cons_zero, List.getD_cons_succ] at hbf
      clear hf
      obtain ⟨⟨b1, k1⟩, _⟩ := hbf
      have k1 := cell_of_one (boxStays Y9.out hB)
      have k0 := cell_of_one (F9.out.below hB _ HH.out.1)
      refine Or.inl ⟨wanted_none rfl, ?_⟩
      rintro _ rfl
      go_simp <;> with_reducible rfl
    refine relG_call (i := 4) (o := ⟨some 35, _, _, _, _, _⟩) ((fun v _ => v = .int .i64 (n : Int))) [(3, 34, 0)] [] rfl rfl (by kernel_rfl) (by kernel_rfl) ((fun _ _ _ h _ => h)) ?_ ?_
    · intro t w1 hB hf hbf K hK
      simp only [DepF, BasF, List.getD_cons_zero, List.getD_cons_succ] at hf
      obtain ⟨⟨_, ⟨e34, i34⟩, rfl⟩, _⟩ := hf
      clear hbf
      have k1 := cell_of_one (boxStays Y9.out hB)
      have k0 := cell_of_one (F9.out.below hB _ HH.out.1)
      refine ⟨wanted_none rfl, ?_⟩
      go_simp
      refine (HN.out ▸ pm_MLenS tr w1 (hT1.out.below hB rfl)).mono ?_
      rintro e w2 ⟨rfl, hb⟩
      exact hK.out _ w2 (rfl) hb
    refine relG_pure (i := 5) (o := ⟨some 36, _, _, _, _, _⟩) (v := ?v12) [(2, 33, 2), (4, 35, 0)] [] rfl rfl (by kernel_rfl) (by kernel_rfl) (fun t w1 hB hf hbf => ?y12) ?n12
    case y12 =>
      simp only [DepF, BasF, List.getD_cons_zero, List.getD_cons_succ] at hf
      obtain ⟨⟨_, ⟨e33, i33⟩, rfl⟩, ⟨_, ⟨e35, i35⟩, rfl⟩, _⟩ := hf
      clear hbf
      have k1 := cell_of_one (boxStays Y9.out hB)
      have k0 := cell_of_one (F9.out.below hB _ HH.out.1)
      refine Or.inl ⟨wanted_none rfl, ?_⟩
      rintro _ rfl
      go_simp <;> with_reducible rfl
    refine relG_pure (i := 6) (o := ⟨some 2, _, _, _, _, _⟩) (v := ?v13) [(0, 31, 5)] [] rfl rfl (by kernel_rfl) (by kernel_rfl) (fun t w1 hB hf hbf => ?y13) ?n13
    case y13 =>
      simp only [DepF, BasF, List.getD_cons_zero, List.getD_cons_succ] at hf
      obtain ⟨⟨_, ⟨e31, i31⟩, rfl⟩, _⟩ := hf
      clear hbf
      have k1 := cell_of_one (boxStays Y9.out hB)
      have k0 := cell_of_one (F9.out.below hB _ HH.out.1)
      refine Or.inl ⟨wanted_none rfl, ?_⟩
      rintro _ rfl
      go_simp <;> with_reducible rfl
    refine relG_pure (i := 7) (o := ⟨some 3, _, _, _, _, _⟩) (v := ?v14) [(5, 36, 1)] [] rfl rfl (by kernel_rfl) (by kernel_rfl) (fun t w1 hB hf hbf => ?y14) ?n14
    case y14 =>
      simp only [DepF, BasF, List.getD_cons_zero, List.getD_cons_succ] at hf
      obtain ⟨⟨_, ⟨e36, i36⟩, rfl⟩, _⟩ := hf
      clear hbf
      have k1 := cell_of_one (boxStays Y9.out hB)
      have k0 := cell_of_one (F9.out.below hB _ HH.out.1)
      refine Or.inl ⟨wanted_none rfl, ?_⟩
      rintro _ rfl
      go_simp <;> with_reducible rfl
    refine relG_done [(0, 31, 7), (1, 32, 6), (2, 33, 5), (3, 34, 4), (4, 35, 3), (5, 36, 2), (6, 2, 1), (7, 3, 0)] (by kernel_rfl) rfl (by kernel_rfl) (fun f wE hB hf => ?_)
    simp only [FinF, List.getD_cons_zero, List.getD_cons_succ] at hf
    obtain ⟨⟨_, e31, rfl⟩, ⟨_, e32, rfl⟩, ⟨_, e33, rfl⟩, ⟨_, e34, rfl⟩, ⟨_, e35, rfl⟩, ⟨_, e36, rfl⟩, ⟨_, e2, rfl⟩, ⟨_, e3, rfl⟩, _⟩ := hf
    simp only [regT, List.foldl_cons, List.foldl_nil, List.setIfInBounds_toArray, List.set_cons_zero, List.set_cons_succ, e31, e32, e33, e34, e35, e36, e2, e3]
    clear e31 e32 e33 e34 e35 e36 e2 e3
    have hDE : wE.heap[D]? = some (.deferred (some [])) := (hB.block D (Array.getElem?_eq_some_iff.1 HKD.out).1).trans HKD.out
    have BE := Lib.hid (B9.out.trans (hB.mono B9.out.size))
    have HDE := Lib.hid hDE
    have HBE := Lib.hid hB
    clear hB hDE
    go_wp2_with fail
    try rw [Exit.noGoto_ret]
    show LeavesInM _ _ _ _ _ _ (marks [D]) _ _
    refine leaves_marks [D] _ (by simp) (fun p hp => ?_) ?_
    · obtain rfl : p = (D, .deferred (some [])) := by simpa [markF] using hp
      exact HDE.out
    · intro W' e1 e2 e3 e4 e5
      have bW : Below w.heap.size w W' := ⟨e1.trans BE.out.os, e2.trans BE.out.tape, e3.trans BE.out.output, by rw [e4]; exact BE.out.size, fun k hk => (e5 k (by simp; omega)).trans (BE.out.block k hk)⟩
      exact ⟨.tuple #[.slice none 0 0, .bool false], by simp [results, Try.results110, go_sem], _, _, rfl, bW, .inr ⟨rfl, rfl, q, hq3, hq2⟩⟩
end Go.Proofs.Ytnpiepimajippaa
namespace Go.Proofs.Ytnpiepimajippaa
open Go.RowKit St Pm
theorem own_b13 (tr : Tr ByteArray) (w : World) (h : AtS w tr) (hz : sz tr ≤ 100000) (hk : ∀ p ∈ items tr, p.1.size ≤ 9223372036854775807) :
    Calls Try.prog 110 #[.agg #[.pointer (pa tr)]] w fun e w' =>
      ∃ v, e = .returned (.tuple #[v, .bool ((items tr).all goodP)]) ∧ Below w.heap.size w w' ∧ ((items tr).all goodP = true → w'.ownsRow w.heap.size 47 6 v (items tr).length (elsV ((items tr).map decV))) ∧ ((items tr).all goodP = false → v = .slice none 0 0) := by
  refine (own_13 tr w h hz hk).mono ?_
  rintro e w' ⟨v, b, rfl, hb, ⟨rfl, h1, h2⟩ | ⟨rfl, rfl, q, hq, hg⟩⟩
  · have h3 : (items tr).all goodP = true := List.all_eq_true.2 h1
    rw [h3]
    exact ⟨v, rfl, hb, fun _ => h2, fun e => by cases e⟩
  · have h3 : (items tr).all goodP = false := List.all_eq_false.2 ⟨q, hq, by rw [hg]; simp⟩
    rw [h3]
    exact ⟨_, rfl, hb, fun e => (by cases e), fun _ => rfl⟩
theorem may_13 (tr : Tr ByteArray) (w : World) (h : AtS w tr) (hz : sz tr ≤ 100000) (hk : ∀ p ∈ items tr, p.1.size ≤ 9223372036854775807) :
    Calls Try.prog 62 #[.agg #[.pointer (pa tr)]] w fun e w' => e = .returned (.bool ((items tr).all goodP)) ∧ Below w.heap.size w w' := by
  have b1 := below_new w (.cells #[.pointer (pa tr)] 27)
  have C := Lib.hid (own_b13 tr _ (h.below b1 rfl) hz hk)
  have B1 := Lib.hid b1
  obtain ⟨g, hg⟩ : ∃ g, (items tr).all goodP = g := ⟨_, rfl⟩
  rw [hg] at C ⊢
  clear h hk b1 hg
  go_enter Try.func62, Try.ntmps62
  go_wp2_with fail
  refine C.out.mono ?_
  rintro e w2 ⟨v, rfl, hb, _⟩
  go_wp2_with fail
  go_ret
  exact ⟨rfl, B1.out.trans (hb.mono B1.out.size)⟩
theorem elements_13 (tr : Tr ByteArray) (w : World) (h : AtS w tr) (hz : sz tr ≤ 100000) (hk : ∀ p ∈ items tr, p.1.size ≤ 9223372036854775807) :
    Calls Try.prog 60 #[.agg #[.pointer (pa tr)]] w fun e w' =>
      ∃ v c, e = .returned (.tuple #[v, .int .i64 c]) ∧ Below w.heap.size w w' ∧ ((items tr).all goodP = true → c = 0 ∧ w'.ownsRow w.heap.size 47 6 v (items tr).length (elsV ((items tr).map decV))) ∧ ((items tr).all goodP = false → c = 2 ∧ v = .slice none 0 0) := by
  have b1 := below_new w (.cells #[.pointer (pa tr)] 27)
  have C := Lib.hid (own_b13 tr _ (h.below b1 rfl) hz hk)
  have B1 := Lib.hid b1
  obtain ⟨g, hg⟩ : ∃ g, (items tr).all goodP = g := ⟨_, rfl⟩
  rw [hg] at C ⊢
  clear h hk b1 hg
  go_enter Try.func60, Try.ntmps60
  go_wp2_with fail
  refine C.out.mono ?_
  rintro e w2 ⟨v, rfl, hb, h1, h2⟩
  have HB := Lib.hid (B1.out.trans (hb.mono B1.out.size))
  have hsz := B1.out.size
  cases g
  case true =>
    have R := Lib.hid (own_mono (h1 rfl) hsz)
    clear h1 h2 hb hsz
    go_wp2_with fail
    go_ret2
    exact ⟨_, _, rfl, HB.out, rfl, R.out⟩
  case false =>
    obtain rfl := h2 rfl
    clear h1 h2 hb hsz
    go_wp2_with fail
    go_ret2
    exact ⟨_, _, rfl, HB.out, rfl, rfl⟩
end Go.Proofs.Ytnpiepimajippaa
namespace Go.Proofs.Ytnpiepimajippaa
open Go.RowKit St Pm
def encV (e : Ev) : ByteArray × ByteArray := (keyB e.1.st, e.2)
theorem encV_toV {x : El} (h : okE x = true) : encV (toV x) = enc x := by
  obtain ⟨h1, _⟩ := okE_iff.1 h
  unfold encV toV enc
  rw [(Stp.ok_sv h1).2]
theorem enc_toE {x : Ev} : enc (toE x) = encV x := rfl
structure Reg (l : List Ev) (t : Tr ByteArray) : Prop where
  bal : Bal t
  it : items t = l.map encV
  ok : ∀ x ∈ l, okV x = true
  srt : Srt (items t)
theorem Reg.len {l : List Ev} {t : Tr ByteArray} (h : Reg l t) : sz t = l.length := by rw [← sz_items, h.it, List.length_map]
theorem good_enc {x : Ev} (h : okV x = true) : goodP (encV x) = true ∧ decV (encV x) = x := by
  obtain ⟨h1, h2⟩ := okV_toE h
  have h3 := decV_enc (es := [toE x]) (fun y hy => by rw [List.mem_singleton.1 hy]; exact h1)
  refine ⟨h3.1 _ (by rw [List.map_cons, List.map_nil, enc_toE]; exact List.mem_cons_self), ?_⟩
  have h4 := h3.2
  simp only [List.map_cons, List.map_nil, enc_toE, h2, List.cons.injEq, and_true] at h4
  exact h4
theorem Reg.good {l : List Ev} {t : Tr ByteArray} (h : Reg l t) : (items t).all goodP = true := by
  rw [h.it, List.all_eq_true]
  intro p hp
  obtain ⟨x, hx, rfl⟩ := List.mem_map.1 hp
  exact (good_enc (h.ok x hx)).1
theorem Reg.dec {l : List Ev} {t : Tr ByteArray} (h : Reg l t) : (items t).map decV = l := by
  rw [h.it, List.map_map]
  conv => rhs; rw [← List.map_id l]
  exact List.map_congr_left fun x hx => (good_enc (h.ok x hx)).2
theorem Reg.texts {l : List Ev} {t : Tr ByteArray} (h : Reg l t) : (items t).map (·.2) = l.map (·.2) := by
  rw [h.it, List.map_map]; rfl
theorem ok_lab {s : Sv} (h : s.ok = true) : s.l.size ≤ 12 := by
  have h5 := (Sv.ok_iff.1 h).2.2.2.2.1
  unfold okLabel at h5
  simp only [Bool.and_eq_true, decide_eq_true_eq] at h5
  have := h5.2
  simpa using this
theorem key_size {s : Sv} (h : s.ok = true) : (keyB s.st).size ≤ 31 := by
  have h1 := key_length s.st
  have h2 : (keyB s.st).size = s.st.key.length := by unfold keyB; simp [ByteArray.size]
  have h3 := ok_lab h
  have h4 : s.st.label.length = s.l.size := by unfold Sv.st; simp
  omega
theorem Reg.keys {l : List Ev} {t : Tr ByteArray} (h : Reg l t) : ∀ p ∈ items t, p.1.size ≤ 9223372036854775807 := by
  rw [h.it]
  intro p hp
  obtain ⟨x, hx, rfl⟩ := List.mem_map.1 hp
  have := key_size (okV_iff.1 (h.ok x hx)).1
  show (keyB x.1.st).size ≤ _
  omega
theorem reg_put {L : List Ev} {t : Tr ByteArray} (hm : mayV L = true) (hb : Bal t) (hi : items t = putF L) : Reg (sortV L) t := by
  have ho := (mayV_iff.1 hm).1
  have hE := okE_map ho
  refine ⟨hb, ?_, fun x hx => ho x (sortV_mem.1 hx), by rw [hi]; exact putF_srt hm⟩
  rw [hi, ← putF_sort hm, sortV_V ho, List.map_map]
  refine List.map_congr_left fun x hx => ?_
  exact (encV_toV (hE x (sortE_mem.1 hx))).symm
theorem reg_nil : Reg [] .nil := ⟨trivial, rfl, fun x hx => (by cases hx), List.Pairwise.nil⟩
def aheadK (tr : Tr ByteArray) (k : ByteArray) : Bool := !(isNS (endR tr)) || klt (keyOr (endR tr)) k
theorem Reg.ahead {l : List Ev} {t : Tr ByteArray} (h : Reg l t) {s : Sv} (hs : s.ok = true) : aheadK t (keyB s.st) = behindV l s := by
  unfold aheadK behindV
  cases t with
  | nil =>
    have : l = [] := by have := h.len; exact List.length_eq_zero_iff.1 this.symm
    subst this
    rfl
  | node b tl k v tr =>
    obtain ⟨b', l', k', v', r', e1, e2⟩ := endR_items (.node b tl k v tr : Tr ByteArray) (by intro e; cases e)
    rw [e1]
    rw [h.it, h.len, List.getElem?_map] at e2
    rw [← List.getLast?_eq_getElem?] at e2
    cases hl : l.getLast? with
    | none => rw [hl] at e2; cases e2
    | some x =>
      rw [hl] at e2
      simp only [Option.map_some, Option.some.injEq] at e2
      have hx := h.ok x (List.mem_of_getLast? hl)
      have ek : k' = keyB x.1.st := by have := congrArg Prod.fst e2; exact this.symm
      show (!true || klt k' (keyB s.st)) = _
      rw [ek, keyB_klt (Sv.ok_st (okV_iff.1 hx).1).1 (Sv.ok_st hs).1, ← svC_lt (okV_iff.1 hx).1 hs]
      rfl
theorem ins_snoc {k v : ByteArray} : ∀ {l : List (ByteArray × ByteArray)}, (∀ p ∈ l, klt p.1 k = true) → ins k v l = l ++ [(k, v)]
  | [], _ => rfl
  | (k0, v0) :: l, h => by
    have h0 := h _ List.mem_cons_self
    have ih := ins_snoc (k := k) (v := v) (l := l) fun p hp => h p (List.mem_cons_of_mem _ hp)
    unfold ins
    rw [if_neg (by rw [klt_asymm h0]; simp), if_pos h0, ih]
    rfl
theorem Reg.lt_last {l : List Ev} {t : Tr ByteArray} (h : Reg l t) {s : Sv} (hs : s.ok = true) (hb : behindV l s = true) : ∀ p ∈ items t, klt p.1 (keyB s.st) = true := by
  intro p hp
  have hsr := h.srt
  rw [h.it] at hp hsr
  obtain ⟨x, hx, rfl⟩ := List.mem_map.1 hp
  unfold behindV at hb
  rcases List.eq_nil_or_concat l with rfl | ⟨l0, y, rfl⟩
  · cases hx
  · rw [List.concat_eq_append] at hx hb hsr h
    rw [List.getLast?_append] at hb
    simp only [List.getLast?_singleton, Option.some_or] at hb
    have hy := (okV_iff.1 (h.ok y (by simp))).1
    have hb2 : klt (keyB y.1.st) (keyB s.st) = true := by rw [keyB_klt (Sv.ok_st hy).1 (Sv.ok_st hs).1, ← svC_lt hy hs]; exact hb
    rcases List.mem_append.1 hx with hx | hx
    · rw [List.map_append, srt_append] at hsr
      exact klt_trans (hsr.2.2 _ (List.mem_map.2 ⟨x, hx, rfl⟩) _ (List.mem_map.2 ⟨y, List.mem_singleton.2 rfl, rfl⟩)) hb2
    · rw [List.mem_singleton.1 hx]; exact hb2
theorem reg_snoc {l : List Ev} {t t' : Tr ByteArray} {s : Sv} {x : ByteArray} (h : Reg l t) (hs : s.ok = true) (hx : x.size ≤ 256) (hb : behindV l s = true) (hB : Bal t') (hi : items t' = ins (keyB s.st) x (items t)) : Reg (l ++ [(s, x)]) t' := by
  have hl := h.lt_last hs hb
  refine ⟨hB, ?_, fun y hy => ?_, by rw [hi]; exact ins_srt h.srt⟩
  · rw [hi, ins_snoc hl, h.it, List.map_append]; rfl
  · rcases List.mem_append.1 hy with hy | hy
    · exact h.ok y hy
    · rw [List.mem_singleton.1 hy]; exact okV_iff.2 ⟨hs, hx⟩
end Go.Proofs.Ytnpiepimajippaa
namespace Go.Proofs.Ytnpiepimajippaa
open Go.RowKit St Pm
def encEls (x : Ev) : Array Value := #[.agg #[.int .i64 x.1.g, .int .i64 x.1.r, .string x.1.l, .int .i64 x.1.n, .int .i64 x.1.i], .string x.2]
def GoesOver (n gf : Nat) (lb : Array Value) (S : Nat → Prop) (L : List Ev) (w : World) : Prop :=
  Iter2 n Try.prog gf lb encEls (KeepE (w.heap.size + 2) S (fun _ => False)) (fun pre x _ => pre ++ [x] <+: L) (fun _ xs W2 W' => xs = L ∧ Below (w.heap.size + 2) W2 W') (fun pre => pre <+: L) w
theorem KeepE.own {M base size n : Nat} {S : Nat → Prop} {e : TypeId} {v : Value} {xs : List Value} {A B : World} (h : KeepE M S (fun _ => False) A B) (ho : A.ownsRow base e size v n xs) (hM : M ≤ base) : B.ownsRow base e size v n xs := by
  refine ⟨ho.1, ?_⟩
  rcases ho.2 with h1 | ⟨g, cap, cur, hv, hb, hg, h3⟩
  · exact .inl h1
  · exact .inr ⟨g, cap, cur, hv, hb, h.rest g _ (by omega) hg (fun _ _ _ _ h => h), h3⟩
def shown (t : Tr ByteArray) : List Ev := if (items t).all goodP = true then (items t).map decV else []
theorem Reg.shown {l : List Ev} {t : Tr ByteArray} (h : Reg l t) : shown t = l := by unfold Go.Proofs.Ytnpiepimajippaa.shown; rw [if_pos h.good, h.dec]
theorem heap_kept {A A' : World} {row : Option Nat} (hg : A.grownBy A' row) (hr : ∀ r, row = some r → ∃ o : Obj, A.heap[r]? = some o ∧ o.isCells = false) {g : Nat} {c : Array Value} {t : TypeId} {fr : Nat × Nat} (h : A.heap[g]? = some (.cells c t fr)) : A'.heap[g]? = some (.cells c t fr) := by
  refine (hg.block g (Array.getElem?_eq_some_iff.1 h).1 fun e => ?_).trans h
  obtain ⟨o, ho, hc⟩ := hr g e.symm
  rw [h] at ho; cases ho; cases hc
theorem keepsFrom_below {A B : World} (hb : Below A.heap.size A B) (D : Nat) : KeepsFrom D A B := ⟨hb.size, fun k o _ ho _ => boxStays ho hb⟩
end Go.Proofs.Ytnpiepimajippaa
namespace Go.Proofs.Ytnpiepimajippaa
open Go.RowKit St Pm
attribute [local go_sem] Oper.semAt_some
theorem all_13 (tr : Tr ByteArray) (w : World) : Calls Try.prog 69 #[.agg #[.pointer (pa tr)]] w fun e w' =>
    ∃ mb, e = .returned (.func (.func 111) #[] #[.pointer (some ⟨mb, 0, none⟩)]) ∧ w.heap.size ≤ mb ∧ Boxed w' mb 27 (.pointer (pa tr)) ∧ Below w.heap.size w w' := by
  go_enter Try.func69, Try.ntmps69
  go_wp2_with fail
  go_ret
  exact ⟨w.heap.size, rfl, Nat.le_refl _, Boxed.new w _ _, below_new _ _⟩
set_option maxRecDepth 100000 in
set_option maxHeartbeats 2000000 in
theorem all1_13 (n : Nat) (hn : 1 ≤ n) (tr : Tr ByteArray) (mb : Nat) (w : World) (S : Nat → Prop) (hm : Boxed w mb 27 (.pointer (pa tr))) (h : AtS w tr) (hz : sz tr ≤ 100000) (hk : ∀ p ∈ items tr, p.1.size ≤ 9223372036854775807) (hS : ∀ k, S k → k < w.heap.size) :
    GoesOver n 111 #[.pointer (some ⟨mb, 0, none⟩)] S (shown tr) w := by
  intro ll J Jx W hW hW2 hJo _ hY h0
  have hJ : ∀ pre A B, J pre A → Below A.heap.size A B → J pre B := fun pre A B h hb => ownFrom_to hJo h hb
  have hmW : Boxed W mb 27 (.pointer (pa tr)) := boxStays hm hW
  have OB := Lib.hid (own_b13 tr W (h.below hW rfl) hz hk)
  have HM := Lib.hid hmW
  have HW2 := Lib.hid hW2
  have HHW := Lib.hid hW
  have HY := Lib.hid hY
  have HJ := Lib.hid hJ
  have HSS := Lib.hid hS
  have H0 := Lib.hid h0
  have HZ : Hid ((shown tr).length ≤ 100000) := Lib.hid (by
    unfold shown
    split
    · rw [List.length_map, sz_items]; exact hz
    · exact Nat.zero_le _)
  have OB2 : Hid (Calls Try.prog 110 #[.agg #[.pointer (pa tr)]] W fun e w' => ∃ a c g, e = .returned (.tuple #[.slice a (shown tr).length c, .bool g]) ∧ Below W.heap.size W w' ∧ w'.ownsRow W.heap.size 47 6 (.slice a (shown tr).length c) (shown tr).length (elsV (shown tr)) ∧ (0 < (shown tr).length → g = true)) := Lib.hid (by
    refine OB.out.mono ?_
    rintro e w' ⟨v, rfl, hb, h1, h2⟩
    unfold shown
    cases hg : (items tr).all goodP with
    | true =>
      have h3 := h1 hg
      obtain ⟨a, c, rfl, _⟩ := own_slice h3
      rw [if_pos rfl, List.length_map]
      exact ⟨a, c, true, rfl, hb, h3, fun _ => rfl⟩
    | false =>
      obtain rfl := h2 hg
      rw [if_neg (by simp)]
      exact ⟨none, 0, false, rfl, hb, World.ownsRow_nil _ _ _ _, fun h => absurd h (by simp)⟩)
  clear OB hW hW2 hY h0 hmW hm h hk hz hS
  generalize shown tr = L at *
  obtain ⟨N, hN⟩ : ∃ N, L.length = N := ⟨_, rfl⟩
  rw [hN] at OB2 HZ
  have HN := Lib.hid hN
  clear hN
  refine callsIn_of_wp Try.func111 rfl trivial ?_ rfl
  simp only [Try.ntmps111, List.size_toArray, List.length_cons, List.length_nil, Nat.reduceAdd, Nat.reduceSub, Array.replicate_succ, Array.replicate_zero, List.push_toArray, List.append_toArray, List.nil_append, List.cons_append]
  have k0 := cell_of_one HM.out
  gi_wp2
  refine ⟨trivial, ?_⟩
  refine (callsIn_wide.2 OB2.out).mono ?_
  rintro e W3 ⟨a, c, g, rfl, hb, hown, hg⟩
  have HO := Lib.hid hown
  have HG := Lib.hid hg
  have HB := Lib.hid hb
  have HJ3 := Lib.hid (HJ.out [] W W3 H0.out hb)
  clear hown hg hb k0
  gi_wp2
  gi_loopw [14] (fun p wr => ∃ pre rest, p = .int .i64 (pre.length : Int) ∧ Hid (pre ++ rest = L) ∧ J pre wr ∧ Hid (KeepE (w.heap.size + 2) S (fun _ => False) W3 wr)) (fun p _ => N - (intOf p).toNat)
  case atStart => exact ⟨[], L, rfl, Lib.hid rfl, HJ3.out, Lib.hid (KeepE.refl _)⟩
  case round =>
    obtain ⟨pre, rest, rfl, HL, hJr, HK⟩ := hrel
    cases rest with
    | nil =>
      have hlt : ¬ pre.length < N := by have := HN.out; rw [← HL.out] at this; simp at this; omega
      have hlti : ¬ (pre.length : Int) < (N : Int) := by omega
      have HJr := Lib.hid hJr
      gi_wp2
      go_end0
      exact ⟨⟨_, rfl⟩, .inl ⟨pre, wr, HJr.out, by have := HL.out; rw [List.append_nil] at this; exact ⟨this, Below.refl _ _⟩⟩⟩
    | cons x rest =>
      have hlt : pre.length < N := by have := HN.out; rw [← HL.out] at this; simp at this; omega
      have hlti : (pre.length : Int) < (N : Int) := by omega
      obtain rfl : g = true := HG.out (by omega)
      have hNb : N ≤ 100000 := HZ.out
      have hk1 : pre.length < L.length := by have := HN.out; omega
      have hx : L[pre.length] = x := by
        have h1 : L[pre.length]? = some x := by rw [← HL.out]; simp
        rw [List.getElem?_eq_getElem hk1] at h1
        exact Option.some.inj h1
      have hMW : w.heap.size + 2 ≤ W.heap.size := HW2.out
      obtain ⟨ba, oa, rfl, ca⟩ := els_get (CellsAt.ownN (KeepE.own HK.out HO.out hMW)) pre.length hk1
      rw [hx] at ca
      obtain ⟨p0, p1, p2, p3, p4, p5⟩ := ca
      have HJA : Hid (J pre (wr.alloc (.cells #[.int .i64 x.1.g, .int .i64 x.1.r, .string x.1.l, .int .i64 x.1.n, .int .i64 x.1.i, .string x.2] 47))) := Lib.hid (HJ.out _ _ _ hJr (below_new _ _))
      have HP : Hid (pre ++ [x] <+: L) := Lib.hid ⟨rest, by rw [← HL.out]; simp⟩
      obtain ⟨fn, tmps, assign, body', hyy, hRR⟩ := HY.out pre x _ HJA.out HP.out
      simp only [encEls] at hyy
      clear hx hk1
      gi_wp2
      refine hRR.mono ?_
      rintro e W' (⟨rfl, hJ', hk⟩ | ⟨rfl, hJx', _⟩)
      · have HJ2 := Lib.hid hJ'
        have HK2 : Hid (KeepE (w.heap.size + 2) S (fun _ => False) W3 W') := Lib.hid ((HK.out.trans (KeepE.below (below_new _ _) (fun k hk => by have := HK.out.size; have := HB.out.size; have := HW2.out; have := HSS.out k hk; omega))).trans hk)
        clear hJ' hk hyy p0 p1 p2 p3 p4 p5
        gi_wp2
        refine ⟨⟨pre ++ [x], rest, by simp, Lib.hid (by rw [← HL.out]; simp), HJ2.out, HK2⟩, ?_⟩
        have e1 : (intOf (Value.int .i64 ((pre.length : Int) + 1))).toNat = pre.length + 1 := by simp [intOf]
        have e2 : (intOf (Value.int .i64 (pre.length : Int))).toNat = pre.length := by simp [intOf]
        rw [e1, e2]; omega
      · have HJ2 := Lib.hid hJx'
        clear hJx' hyy p0 p1 p2 p3 p4 p5
        gi_wp2
        try rw [Exit.noGoto_ret]
        refine bodyPost_ret (results_none rfl _ _ _) rfl ?_
        exact ⟨⟨_, rfl⟩, .inr ⟨pre ++ [x], HP.out, HJ2.out⟩⟩
end Go.Proofs.Ytnpiepimajippaa
namespace Go.Proofs.Ytnpiepimajippaa
open Go.RowKit St Pm
theorem sT13 : ElemT Try.prog 65 9 (.string ⟨#[]⟩) 1 16 := ElemT.mk Try.underlying65 (by kernel_rfl) (by simp [Value.cells])
set_option maxRecDepth 100000 in
set_option maxHeartbeats 2000000 in
theorem texts_13 (tr : Tr ByteArray) (w : World) (h : AtS w tr) (hz : sz tr ≤ 100000) (hk : ∀ p ∈ items tr, p.1.size ≤ 9223372036854775807) :
    Calls Try.prog 63 #[.agg #[.pointer (pa tr)]] w fun e w' =>
      ∃ v c, e = .returned (.tuple #[v, .int .i64 c]) ∧ Below w.heap.size w w' ∧ ((items tr).all goodP = true → c = 0 ∧ w'.ownsRow w.heap.size 9 1 v (items tr).length (txV ((items tr).map (·.2)))) ∧ ((items tr).all goodP = false → c = 2 ∧ v = .slice none 0 0) := by
  have b1 := below_new w (.cells #[.pointer (pa tr)] 27)
  have C := Lib.hid (own_b13 tr _ (h.below b1 rfl) hz hk)
  have B1 := Lib.hid b1
  have ST := Lib.hid sT13
  obtain ⟨g, hg⟩ : ∃ g, (items tr).all goodP = g := ⟨_, rfl⟩
  obtain ⟨l, hl⟩ : ∃ l, (items tr).map decV = l := ⟨_, rfl⟩
  have hl2 : (items tr).map (·.2) = l.map (·.2) := by rw [← hl, List.map_map]; rfl
  have hl3 : (items tr).length = l.length := by rw [← hl]; simp
  have hl4 : Hid (l.length ≤ 100000) := Lib.hid (by rw [← hl3, sz_items]; exact hz)
  obtain ⟨n, hn⟩ : ∃ n, l.length = n := ⟨_, rfl⟩
  rw [hg, hl, hl3, hn] at C
  rw [hg, hl2, hl3, hn]
  have HN := Lib.hid hn
  obtain ⟨z, hz0⟩ : ∃ z, w.heap.size = z := ⟨_, rfl⟩
  have HZ := Lib.hid hz0
  clear h hk b1 hg hl hl2 hl3 hn hz hz0
  go_enter Try.func63, Try.ntmps63
  go_wp2_with fail
  refine C.out.mono ?_
  rintro e w2 ⟨v, rfl, hb, h1, h2⟩
  have HB := Lib.hid (B1.out.trans (hb.mono B1.out.size))
  cases g
  case false =>
    obtain rfl := h2 rfl
    clear h1 h2 hb
    go_wp2_with fail
    go_ret2
    exact ⟨_, _, rfl, HB.out, rfl, rfl⟩
  case true =>
    have h3 := h1 rfl
    obtain ⟨a, cp, hv, _⟩ := own_slice h3
    subst hv
    have CE := Lib.hid (CellsAt.ownN h3)
    clear h1 h2 h3 hb
    go_wp2_with fail
    go_loopw [6, 18] (fun v i wr => ∃ k : Nat, k ≤ n ∧ i = .int .i64 (k : Int) ∧ Hid (wr.ownsRow w2.heap.size 9 1 v k (txV ((l.take k).map (·.2)))) ∧ Hid (Below w2.heap.size w2 wr)) (fun _ i _ => n - (intOf i).toNat)
    case atStart => exact ⟨0, Nat.zero_le _, rfl, Lib.hid ⟨rfl, Or.inl ⟨rfl, rfl⟩⟩, Lib.hid (Below.refl _ _)⟩
    case round =>
      obtain ⟨k, hk, rfl, HO, HW⟩ := hrel
      by_cases hlt : k < n
      · have hk1 : k < l.length := by have := HN.out; omega
        obtain ⟨so, co, hsv, _, _⟩ := own_slice HO.out
        have hki : (k : Int) < (n : Int) := by omega
        subst hsv
        obtain ⟨ba, oa, rfl, ca⟩ := els_get (CE.out.below HW.out rfl) k hk1
        have HT : Hid (txV ((l.take k).map (·.2)) ++ [.string l[k].2] = txV ((l.take (k + 1)).map (·.2))) := Lib.hid (by unfold txV; rw [List.take_succ_eq_append_getElem hk1, List.map_append, List.map_append]; rfl)
        generalize l[k] = x at *
        obtain ⟨p0, p1, p2, p3, p4, p5⟩ := ca
        have hkn : k ≤ 100000 := by have := hl4.out; omega
        go_upto_region 8 with (fail)
        have bA := below_new wr (.cells #[.int .i64 x.1.g, .int .i64 x.1.r, .string x.1.l, .int .i64 x.1.n, .int .i64 x.1.i, .string x.2] 47)
        have xA := heap_alloc_new wr (.cells #[.int .i64 x.1.g, .int .i64 x.1.r, .string x.1.l, .int .i64 x.1.n, .int .i64 x.1.i, .string x.2] 47)
        generalize wr.alloc (.cells #[.int .i64 x.1.g, .int .i64 x.1.r, .string x.1.l, .int .i64 x.1.n, .int .i64 x.1.i, .string x.2] 47) = w3 at *
        have q5 := cell_of_row _ _ 5 _ _ _ xA
        have O1 := Lib.hid (own_later HO.out bA (Nat.le_refl _))
        have W1 := Lib.hid (HW.out.trans (bA.mono HW.out.size))
        have HBS : Hid (w.heap.size ≤ w3.heap.size) := Lib.hid (Nat.le_trans HB.out.size (Nat.le_trans HW.out.size bA.size))
        have HWS : Hid (w2.heap.size ≤ w3.heap.size) := Lib.hid W1.out.size
        clear xA bA p0 p1 p2 p3 p4 p5
        go_wp2_with (at_builtin; go_must (refine wpList_app rfl _ _ 65 65 rfl w2.heap.size 9 _ 1 16 ST.out _ k _ rfl (O1.out.alloc _) _ 1 [.string x.2] rfl ((CellsAt.new w3 9 (0, 0) [.string x.2]).srcN rfl (by simp [Value.oneCell']) Try.underlying65 1 (by decide)) (by omega) (by omega) (by have := HWS.out; simp; omega) ?_); go_must (intro v6 w6 hown hgr hbel _))
        rw [HT.out] at hown
        exact ⟨⟨k + 1, by omega, by go_num, Lib.hid hown, Lib.hid ((W1.out.alloc HWS.out _).trans hbel)⟩, by simp [intOf]; omega⟩
      · obtain rfl : k = n := by omega
        go_wp2_with fail
        go_ret2
        rw [List.take_of_length_le (by rw [HN.out]; exact Nat.le_refl _)] at HO
        exact ⟨_, _, rfl, HB.out.trans (HW.out.mono HB.out.size), rfl, own_mono HO.out HB.out.size⟩
end Go.Proofs.Ytnpiepimajippaa
namespace Go.Proofs.Ytnpiepimajippaa
open Go.RowKit St Pm
theorem num_13 (x : Int) (w : World) : Calls Try.prog 37 #[.int .i64 x] w fun e w' => e = .returned (.int .i64 x) ∧ w = w' := by
  go_enter Try.func37, Try.ntmps37
  go_wp2
  go_ret
  exact ⟨rfl, rfl⟩
def labA : ByteArray := ⟨#[97]⟩
def atV (g : Int) (x : ByteArray) : Ev := (⟨g, 0, labA, 1, 0⟩, x)
set_option maxRecDepth 100000 in
theorem at_13 (g : Int) (x : ByteArray) (w : World) : Calls Try.prog 64 #[.int .i64 g, .string x] w fun e w' => e = .returned (.agg #[.int .i64 g, .int .i64 0, .string labA, .int .i64 1, .int .i64 0, .string x]) ∧ Below w.heap.size w w' := by
  have X1 := Lib.hid (heap_alloc_new w (.cells #[.int .i64 0, .int .i64 0, .string ⟨#[]⟩, .int .i64 0, .int .i64 0, .string ⟨#[]⟩] 47))
  go_enter Try.func64, Try.ntmps64
  go_wp2_with (refine wpList_store_row rfl 47 (.tmp 4) (.tmp 10) rfl w.heap.size #[.int .i64 g, .int .i64 0, .string labA, .int .i64 1, .int .i64 0, .string x] rfl rfl 47 _ X1.out (by kernel_rfl) rfl (by simp [Value.oneCell']) ?_)
  have Y := setRow_heap (w.alloc (.cells #[.int .i64 0, .int .i64 0, .string ⟨#[]⟩, .int .i64 0, .int .i64 0, .string ⟨#[]⟩] 47)) w.heap.size _ #[.int .i64 g, .int .i64 0, .string labA, .int .i64 1, .int .i64 0, .string x] _ _ X1.out
  have q0 := cell_of_row _ _ 0 _ _ _ Y
  have q1 := cell_of_row _ _ 1 _ _ _ Y
  have q2 := cell_of_row _ _ 2 _ _ _ Y
  have q3 := cell_of_row _ _ 3 _ _ _ Y
  have q4 := cell_of_row _ _ 4 _ _ _ Y
  have q5 := cell_of_row _ _ 5 _ _ _ Y
  refine bodyPost_ret (v := .agg #[.int .i64 g, .int .i64 0, .string labA, .int .i64 1, .int .i64 0, .string x]) (by simp [results, Try.results64, go_sem, q0, q1, q2, q3, q4, q5]) rfl ?_
  exact ⟨rfl, below_setRow (below_new _ _) (Nat.le_refl _) _⟩
theorem fld_st (g r n i : Int) (l x : ByteArray) (w : World) : (Instr.field 47 (.agg #[.int .i64 g, .int .i64 r, .string l, .int .i64 n, .int .i64 i, .string x]) 0).run Try.prog w = .ok (.agg #[.int .i64 g, .int .i64 r, .string l, .int .i64 n, .int .i64 i]) w := by
  kernel_rfl
end Go.Proofs.Ytnpiepimajippaa
namespace Go.Proofs.Ytnpiepimajippaa
open Go.RowKit
section
variable {P : Program} {t : TypeId} {ps rs : Array TypeId} {vd : Bool}
theorem eqIn_func (h : P.underlying t = some (.func ps rs vd)) (fn : Fn) (fi ca : Array Value) (w : World) (d : Nat) : (Op.equalIn (d + 1) t (.func fn fi ca) .nilFunc).run P w = .ok false w := by
  simp [Op.equalIn, run_underlying h]
theorem eql_func (h : P.underlying t = some (.func ps rs vd)) (fn : Fn) (fi ca : Array Value) (w : World) : (binOp .eql t (.func fn fi ca) .nilFunc).run P w = .ok (.bool false) w := by
  simp only [binOp]
  simp [Op.equal, Op.maxDepth, eqIn_func h fn fi ca w 9999]
end
end Go.Proofs.Ytnpiepimajippaa
namespace Go.Proofs.Ytnpiepimajippaa
open Go.RowKit St Pm
attribute [local go_sem] Oper.semAt_some
def GoI13 (s : Nat) (w : World) (lv : Value) (leave : Int) (pre : List Ev) (W : World) : Prop :=
  Boxed W s 22 lv ∧ Boxed W (s + 1) 3 (.int .i64 leave) ∧ Boxed W (s + 2) 4 (.bool false) ∧ Boxed W (s + 3) 3 (.int .i64 (pre.length : Int)) ∧ Below s w W
theorem goI_own13 (s : Nat) (w : World) (lv : Value) (leave : Int) (B : Nat) (hs : s ≤ w.heap.size) (hB : s ≤ B) : OwnFrom B (GoI13 s w lv leave) := by
  rintro pre A A' row ⟨h1, h2, h3, h4, h6⟩ hg hr
  have hr' : ∀ r, row = some r → ∃ o : Obj, A.heap[r]? = some o ∧ o.isCells = false := fun r e => (hr r e).2
  exact ⟨heap_kept hg hr' h1, heap_kept hg hr' h2, heap_kept hg hr' h3, heap_kept hg hr' h4, ownFrom_below (β := Unit) hs hB () A A' row h6 hg hr⟩
set_option maxRecDepth 100000 in
set_option maxHeartbeats 2000000 in
theorem goes_13 (gf : Nat) (lb : Array Value) (S : Nat → Prop) (L : List Ev) (a : Option Addr) (n c : Nat) (leave : Int) (w : World) (hl : CellsAt w a (elsV L)) (hn : n = L.length) (hb : n ≤ 1000000)
    (hS : ∀ k, S k → k < w.heap.size) (en : ∀ args w, (callFunc gf args).run Try.prog w = .ok (.enter gf args) w) (hI : ∀ W, Below w.heap.size w W → GoesOver 5 gf lb S L W) :
    Calls Try.prog 68 #[.func (.func gf) #[] lb, .slice a n c, .int .i64 leave] w fun e w' => e = .returned (.bool true) ∧ Below w.heap.size w w' := by
  have EQ := fun W => eql_func (P := Try.prog) (t := 78) Try.underlying78 (.func gf) #[] lb W
  refine (callsIn_wide (n := 6)).1 ?_
  refine callsIn_of_wp_marks Try.func68 rfl trivial ?_ rfl
  simp only [Try.ntmps68, List.size_toArray, List.length_cons, List.length_nil, Nat.reduceAdd, Nat.reduceSub, Array.replicate_succ, Array.replicate_zero, List.push_toArray, List.append_toArray, List.nil_append, List.cons_append]
  have HI := Lib.hid hI
  have HLL := Lib.hid hl
  have HSS := Lib.hid hS
  have HN := Lib.hid hn
  clear hI hl hS hn
  gi_wp2
  clear EQ
  obtain ⟨s, hs⟩ : ∃ s, s = w.heap.size := ⟨_, rfl⟩
  obtain ⟨W5, hW5⟩ : ∃ W5, allocs w [.cells #[.slice a n c] 22, .cells #[.int .i64 leave] 3, .cells #[.bool false] 4, .cells #[.int .i64 0] 3] = W5 := ⟨_, rfl⟩
  have hx5 : ∀ i ob, [Obj.cells #[.slice a n c] 22, .cells #[.int .i64 leave] 3, .cells #[.bool false] 4, .cells #[.int .i64 0] 3][i]? = some ob → W5.heap[s + i]? = some ob := fun i ob h => by have := allocs_get _ w i ob h; rw [hW5, ← hs] at this; exact this
  have hb5 : Below s w W5 := by rw [← hW5, hs]; exact allocs_below _ _
  have z5 : s + 4 ≤ W5.heap.size := by have := (Array.getElem?_eq_some_iff.1 (hx5 3 _ rfl)).1; omega
  have c1 : Boxed W5 s 22 (.slice a n c) := hx5 0 _ rfl
  have c2 : Boxed W5 (s + 1) 3 (.int .i64 leave) := hx5 1 _ rfl
  have c3 : Boxed W5 (s + 2) 4 (.bool false) := hx5 2 _ rfl
  have c4 : Boxed W5 (s + 3) 3 (.int .i64 0) := hx5 3 _ rfl
  rw [show (((w.alloc (.cells #[.slice a n c] 22)).alloc (.cells #[.int .i64 leave] 3)).alloc (.cells #[.bool false] 4)).alloc (.cells #[.int .i64 0] 3) = W5 from hW5, ← hs]
  have HS := Lib.hid hs
  have HIter := HI.out W5 (by rw [← hs]; exact hb5)
  have HSb : Hid (∀ k, S k → k < s) := Lib.hid (by rw [hs]; exact HSS.out)
  have HSd := HSb.out
  clear hW5 hx5 hs
  refine range_law2 (n := 6) rfl en HIter (by omega) KeepE.trans (fun W o o' _ _ => KeepE.put W _ o' (by omega) (fun k hk => by have := HSd k hk; omega)) (fun x => rfl) (fun pre => (by rintro _ _ _ _ h _ _; exact h)) ?_ (GoI13 s w (.slice a n c) leave) (fun c pre W => c = .ret ∧ Boxed W (s + 2) 4 (.bool true) ∧ Below s w W) (fun ys W' => ys = L ∧ GoI13 s w (.slice a n c) leave ys W') (goI_own13 _ _ _ _ _ (by have := HS.out; omega) (by omega)) ?_ ?_ ?_ ⟨c1, c2, c3, c4, hb5⟩
    (fun pre x a' W => GoI13 s w (.slice a n c) leave pre W ∧ pre ++ [x] <+: L ∧ ∃ bx, W5.heap.size ≤ bx ∧ W.heap[bx]? = some (.cells #[.int .i64 x.1.g, .int .i64 x.1.r, .string x.1.l, .int .i64 x.1.n, .int .i64 x.1.i] 41 (0, 0)) ∧ a' = { tmps := #[.func (.func gf) #[] lb, .slice a n c, .int .i64 leave, undef, .pointer (some ⟨s, 0, none⟩), .pointer (some ⟨s + 1, 0, none⟩), .pointer (some ⟨s + 1 + 1, 0, none⟩), .pointer (some ⟨s + 1 + 1 + 1, 0, none⟩), .pointer (some ⟨bx, 0, none⟩), .string x.2, .func (.func gf) #[] lb, .bool false, .func (.func gf) #[] lb, .agg #[.int .i64 x.1.g, .int .i64 x.1.r, .string x.1.l, .int .i64 x.1.n, .int .i64 x.1.i], .string x.2, undef, undef, undef, undef, undef, undef, undef, undef, undef, undef, undef, undef, undef, undef, undef, undef, undef, undef, undef, undef, undef, undef, undef, undef, undef, undef, undef, undef, undef, undef, undef], defers := [] }) ?_ ?assign ?body ?done ?stop
  · rintro W1 hW1 ys A B ⟨_, hbl⟩ k o hk ho _
    exact (hbl.block k (by omega)).trans ho
  · rintro c pre A A' row ⟨h1, h2, h3⟩ hg hr
    exact ⟨h1, heap_kept hg (fun r e => (hr r e).2) h2, ownFrom_below (β := Unit) (by have := HS.out; omega) (by omega) () A A' row h3 hg hr⟩
  · rintro ys A A' row ⟨h1, h2⟩ hg hr
    exact ⟨h1, goI_own13 _ _ _ _ _ (by have := HS.out; omega) (by omega) ys A A' row h2 hg hr⟩
  · rintro W1 hW1 ys A B ⟨h1, h2, h3, h4, h6⟩ ⟨hm, hbl⟩
    exact ⟨hm, (hbl.block _ (by omega)).trans h1, (hbl.block _ (by omega)).trans h2, (hbl.block _ (by omega)).trans h3, (hbl.block _ (by omega)).trans h4, h6.trans (hbl.mono (by omega))⟩
  · rintro x a' pre A A' row ⟨h1, h2, bx, h0, h3, h4⟩ hg hr
    exact ⟨goI_own13 _ _ _ _ _ (by have := HS.out; omega) (by omega) pre A A' row h1 hg hr, h2, bx, h0, heap_kept hg (fun r e => (hr r e).2) h3, h4⟩
  case assign =>
    rintro l1 pre x W1 K hi hx hsz hK
    have HI := Lib.hid hi
    clear hi
    simp only [encEls, List.zip_toArray, List.zip_cons_cons, List.zip_nil_right, List.foldl_toArray, List.foldl_cons, List.foldl_nil]
    gi_wp2
    refine hK _ _ ((KeepsOthers.alloc _ _).from _) (KeepE.below ((Below.refl _ W1).alloc (Nat.le_refl _) _) (fun k hk => by have := HSd k hk; omega)) (by simp; omega) ⟨(goI_own13 _ _ _ _ s (by have := HS.out; omega) (Nat.le_refl _)).alloc _ HI.out, hx, W1.heap.size, hsz, World.alloc_heap_new W1 _, rfl⟩
  case body =>
    rintro l1 pre x a' W1 ⟨hI, hX1, bx, hbz, hbx, rfl⟩ hsz
    have HI := Lib.hid hI
    have HBX := Lib.hid hbx
    have hpl : pre.length < L.length := by have := hX1.length_le; simp at this; omega
    have hx : L[pre.length] = x := by
      obtain ⟨q, hq⟩ := hX1
      have h1 : L[pre.length]? = some x := by rw [← hq]; simp
      rw [List.getElem?_eq_getElem hpl] at h1
      exact Option.some.inj h1
    obtain ⟨ba, oa, rfl, ca⟩ := els_get (HLL.out.below hI.2.2.2.2 HS.out) pre.length hpl
    rw [hx] at ca
    have CA := Lib.hid ca
    have hpn : pre.length < n := by rw [HN.out]; exact hpl
    have EN : ∀ W, (binOp .neq 41 (.agg #[.int .i64 x.1.g, .int .i64 x.1.r, .string x.1.l, .int .i64 x.1.n, .int .i64 x.1.i]) (.agg #[.int .i64 x.1.g, .int .i64 x.1.r, .string x.1.l, .int .i64 x.1.n, .int .i64 x.1.i])).run Try.prog W = .ok (.bool false) W := fun W => by rw [sv_neq x.1 x.1 W]; simp
    have HEN := Lib.hid EN
    clear hI hbx ca hx hpl EN HIter c1 c2 c3 c4
    have hpi : (pre.length : Int) < (n : Int) := by omega
    have hnle : ¬ n ≤ pre.length := by omega
    have hdle : decide (n ≤ pre.length) = false := by simp; omega
    have HC : Hid (Chain [W1] W1) := Lib.hid (Chain.one W1)
    gi_wp2
    refine wpIn_region_round (S := fun w' => Below W1.heap.size W1 w') (by kernel_rfl) (by kernel_rfl) (Below.refl _ _).drew (fun hS => ?_)
    refine wpAnyH_take (i := 0) (oi := ⟨some 15, _, _, _, _, _⟩) (v := ?_) rfl (by kernel_rfl) (by kernel_rfl) (by kernel_rfl) (fun _ _ _ h => h) (Or.inl ⟨by rfl, ?_⟩) hS ?_
    rotate_left 1
    · intro w' hB; have hd := (HC.out.to W1 (by simp)).trans (hB.mono (HC.out.to W1 (by simp)).size); have x0 := cell_of_row _ _ 0 _ _ _ (boxStays HBX.out hd); have x1 := cell_of_row _ _ 1 _ _ _ (boxStays HBX.out hd); have x2 := cell_of_row _ _ 2 _ _ _ (boxStays HBX.out hd); have x3 := cell_of_row _ _ 3 _ _ _ (boxStays HBX.out hd); have x4 := cell_of_row _ _ 4 _ _ _ (boxStays HBX.out hd); have e0 := cell_of_one (boxStays HI.out.1 hd); have e3 := cell_of_one (boxStays HI.out.2.2.2.1 hd); obtain ⟨q0, q1, q2, q3, q4, q5⟩ := CA.out.below hd; have EN := HEN.out; clear hd; (go_simp <;> with_reducible rfl)
    try simp only [Act.put, List.setIfInBounds_toArray, List.set_cons_zero, List.set_cons_succ]
    refine wpAnyH_take (i := 1) (oi := ⟨some 16, _, _, _, _, _⟩) (v := ?_) rfl (by kernel_rfl) (by kernel_rfl) (by kernel_rfl) (fun _ _ _ h => h) (Or.inl ⟨by rfl, ?_⟩) hS ?_
    rotate_left 1
    · intro w' hB; have hd := (HC.out.to W1 (by simp)).trans (hB.mono (HC.out.to W1 (by simp)).size); have x0 := cell_of_row _ _ 0 _ _ _ (boxStays HBX.out hd); have x1 := cell_of_row _ _ 1 _ _ _ (boxStays HBX.out hd); have x2 := cell_of_row _ _ 2 _ _ _ (boxStays HBX.out hd); have x3 := cell_of_row _ _ 3 _ _ _ (boxStays HBX.out hd); have x4 := cell_of_row _ _ 4 _ _ _ (boxStays HBX.out hd); have e0 := cell_of_one (boxStays HI.out.1 hd); have e3 := cell_of_one (boxStays HI.out.2.2.2.1 hd); obtain ⟨q0, q1, q2, q3, q4, q5⟩ := CA.out.below hd; have EN := HEN.out; clear hd; (go_simp <;> with_reducible rfl)
    try simp only [Act.put, List.setIfInBounds_toArray, List.set_cons_zero, List.set_cons_succ]
    refine wpAnyH_take (i := 2) (oi := ⟨some 17, _, _, _, _, _⟩) (v := ?_) rfl (by kernel_rfl) (by kernel_rfl) (by kernel_rfl) (fun _ _ _ h => h) (Or.inl ⟨by rfl, ?_⟩) hS ?_
    rotate_left 1
    · intro w' hB; have hd := (HC.out.to W1 (by simp)).trans (hB.mono (HC.out.to W1 (by simp)).size); have x0 := cell_of_row _ _ 0 _ _ _ (boxStays HBX.out hd); have x1 := cell_of_row _ _ 1 _ _ _ (boxStays HBX.out hd); have x2 := cell_of_row _ _ 2 _ _ _ (boxStays HBX.out hd); have x3 := cell_of_row _ _ 3 _ _ _ (boxStays HBX.out hd); have x4 := cell_of_row _ _ 4 _ _ _ (boxStays HBX.out hd); have e0 := cell_of_one (boxStays HI.out.1 hd); have e3 := cell_of_one (boxStays HI.out.2.2.2.1 hd); obtain ⟨q0, q1, q2, q3, q4, q5⟩ := CA.out.below hd; have EN := HEN.out; clear hd; (go_simp <;> with_reducible rfl)
    try simp only [Act.put, List.setIfInBounds_toArray, List.set_cons_zero, List.set_cons_succ]
    refine wpAnyH_take (i := 3) (oi := ⟨some 18, _, _, _, _, _⟩) (v := ?_) rfl (by kernel_rfl) (by kernel_rfl) (by kernel_rfl) (fun _ _ _ h => h) (Or.inl ⟨by rfl, ?_⟩) hS ?_
    rotate_left 1
    · intro w' hB; have hd := (HC.out.to W1 (by simp)).trans (hB.mono (HC.out.to W1 (by simp)).size); have x0 := cell_of_row _ _ 0 _ _ _ (boxStays HBX.out hd); have x1 := cell_of_row _ _ 1 _ _ _ (boxStays HBX.out hd); have x2 := cell_of_row _ _ 2 _ _ _ (boxStays HBX.out hd); have x3 := cell_of_row _ _ 3 _ _ _ (boxStays HBX.out hd); have x4 := cell_of_row _ _ 4 _ _ _ (boxStays HBX.out hd); have e0 := cell_of_one (boxStays HI.out.1 hd); have e3 := cell_of_one (boxStays HI.out.2.2.2.1 hd); obtain ⟨q0, q1, q2, q3, q4, q5⟩ := CA.out.below hd; have EN := HEN.out; clear hd; (go_simp <;> with_reducible rfl)
    try simp only [Act.put, List.setIfInBounds_toArray, List.set_cons_zero, List.set_cons_succ]
    refine wpAnyH_take (i := 4) (oi := ⟨some 19, _, _, _, _, _⟩) (v := ?_) rfl (by kernel_rfl) (by kernel_rfl) (by kernel_rfl) (fun _ _ _ h => h) (Or.inl ⟨by rfl, ?_⟩) hS ?_
    rotate_left 1
    · intro w' hB; have hd := (HC.out.to W1 (by simp)).trans (hB.mono (HC.out.to W1 (by simp)).size); have x0 := cell_of_row _ _ 0 _ _ _ (boxStays HBX.out hd); have x1 := cell_of_row _ _ 1 _ _ _ (boxStays HBX.out hd); have x2 := cell_of_row _ _ 2 _ _ _ (boxStays HBX.out hd); have x3 := cell_of_row _ _ 3 _ _ _ (boxStays HBX.out hd); have x4 := cell_of_row _ _ 4 _ _ _ (boxStays HBX.out hd); have e0 := cell_of_one (boxStays HI.out.1 hd); have e3 := cell_of_one (boxStays HI.out.2.2.2.1 hd); obtain ⟨q0, q1, q2, q3, q4, q5⟩ := CA.out.below hd; have EN := HEN.out; clear hd; (go_simp <;> with_reducible rfl)
    try simp only [Act.put, List.setIfInBounds_toArray, List.set_cons_zero, List.set_cons_succ]
    refine wpAnyH_take (i := 5) (oi := ⟨some 20, _, _, _, _, _⟩) (v := ?_) rfl (by kernel_rfl) (by kernel_rfl) (by kernel_rfl) (fun _ _ _ h => h) (Or.inl ⟨by rfl, ?_⟩) hS ?_
    rotate_left 1
    · intro w' hB; have hd := (HC.out.to W1 (by simp)).trans (hB.mono (HC.out.to W1 (by simp)).size); have x0 := cell_of_row _ _ 0 _ _ _ (boxStays HBX.out hd); have x1 := cell_of_row _ _ 1 _ _ _ (boxStays HBX.out hd); have x2 := cell_of_row _ _ 2 _ _ _ (boxStays HBX.out hd); have x3 := cell_of_row _ _ 3 _ _ _ (boxStays HBX.out hd); have x4 := cell_of_row _ _ 4 _ _ _ (boxStays HBX.out hd); have e0 := cell_of_one (boxStays HI.out.1 hd); have e3 := cell_of_one (boxStays HI.out.2.2.2.1 hd); obtain ⟨q0, q1, q2, q3, q4, q5⟩ := CA.out.below hd; have EN := HEN.out; clear hd; (go_simp <;> with_reducible rfl)
    try simp only [Act.put, List.setIfInBounds_toArray, List.set_cons_zero, List.set_cons_succ]
    refine wpAnyH_take (i := 6) (oi := ⟨some 21, _, _, _, _, _⟩) (v := ?_) rfl (by kernel_rfl) (by kernel_rfl) (by kernel_rfl) (fun _ _ _ h => h) (Or.inl ⟨by rfl, ?_⟩) hS ?_
    rotate_left 1
    · intro w' hB; have hd := (HC.out.to W1 (by simp)).trans (hB.mono (HC.out.to W1 (by simp)).size); have x0 := cell_of_row _ _ 0 _ _ _ (boxStays HBX.out hd); have x1 := cell_of_row _ _ 1 _ _ _ (boxStays HBX.out hd); have x2 := cell_of_row _ _ 2 _ _ _ (boxStays HBX.out hd); have x3 := cell_of_row _ _ 3 _ _ _ (boxStays HBX.out hd); have x4 := cell_of_row _ _ 4 _ _ _ (boxStays HBX.out hd); have e0 := cell_of_one (boxStays HI.out.1 hd); have e3 := cell_of_one (boxStays HI.out.2.2.2.1 hd); obtain ⟨q0, q1, q2, q3, q4, q5⟩ := CA.out.below hd; have EN := HEN.out; clear hd; (go_simp <;> with_reducible rfl)
    try simp only [Act.put, List.setIfInBounds_toArray, List.set_cons_zero, List.set_cons_succ]
    refine wpAnyH_take (i := 7) (oi := ⟨some 22, _, _, _, _, _⟩) (v := ?_) rfl (by kernel_rfl) (by kernel_rfl) (by kernel_rfl) (fun _ _ _ h => h) (Or.inl ⟨by rfl, ?_⟩) hS ?_
    rotate_left 1
    · intro w' hB; have hd := (HC.out.to W1 (by simp)).trans (hB.mono (HC.out.to W1 (by simp)).size); have x0 := cell_of_row _ _ 0 _ _ _ (boxStays HBX.out hd); have x1 := cell_of_row _ _ 1 _ _ _ (boxStays HBX.out hd); have x2 := cell_of_row _ _ 2 _ _ _ (boxStays HBX.out hd); have x3 := cell_of_row _ _ 3 _ _ _ (boxStays HBX.out hd); have x4 := cell_of_row _ _ 4 _ _ _ (boxStays HBX.out hd); have e0 := cell_of_one (boxStays HI.out.1 hd); have e3 := cell_of_one (boxStays HI.out.2.2.2.1 hd); obtain ⟨q0, q1, q2, q3, q4, q5⟩ := CA.out.below hd; have EN := HEN.out; clear hd; (go_simp <;> with_reducible rfl)
    try simp only [Act.put, List.setIfInBounds_toArray, List.set_cons_zero, List.set_cons_succ]
    refine wpAnyH_take (i := 8) (oi := ⟨some 23, _, _, _, _, _⟩) (v := ?_) rfl (by kernel_rfl) (by kernel_rfl) (by kernel_rfl) (fun _ _ _ h => h) (Or.inl ⟨by rfl, ?_⟩) hS ?_
    rotate_left 1
    · intro w' hB; have hd := (HC.out.to W1 (by simp)).trans (hB.mono (HC.out.to W1 (by simp)).size); have x0 := cell_of_row _ _ 0 _ _ _ (boxStays HBX.out hd); have x1 := cell_of_row _ _ 1 _ _ _ (boxStays HBX.out hd); have x2 := cell_of_row _ _ 2 _ _ _ (boxStays HBX.out hd); have x3 := cell_of_row _ _ 3 _ _ _ (boxStays HBX.out hd); have x4 := cell_of_row _ _ 4 _ _ _ (boxStays HBX.out hd); have e0 := cell_of_one (boxStays HI.out.1 hd); have e3 := cell_of_one (boxStays HI.out.2.2.2.1 hd); obtain ⟨q0, q1, q2, q3, q4, q5⟩ := CA.out.below hd; have EN := HEN.out; clear hd; (go_simp <;> with_reducible rfl)
    try simp only [Act.put, List.setIfInBounds_toArray, List.set_cons_zero, List.set_cons_succ]
    refine wpAnyH_take (i := 9) (oi := ⟨some 24, _, _, _, _, _⟩) (v := ?_) rfl (by kernel_rfl) (by kernel_rfl) (by kernel_rfl) (fun _ _ _ h => h) (Or.inl ⟨by rfl, ?_⟩) hS ?_
    rotate_left 1
    · intro w' hB; have hd := (HC.out.to W1 (by simp)).trans (hB.mono (HC.out.to W1 (by simp)).size); have x0 := cell_of_row _ _ 0 _ _ _ (boxStays HBX.out hd); have x1 := cell_of_row _ _ 1 _ _ _ (boxStays HBX.out hd); have x2 := cell_of_row _ _ 2 _ _ _ (boxStays HBX.out hd); have x3 := cell_of_row _ _ 3 _ _ _ (boxStays HBX.out hd); have x4 := cell_of_row _ _ 4 _ _ _ (boxStays HBX.out hd); have e0 := cell_of_one (boxStays HI.out.1 hd); have e3 := cell_of_one (boxStays HI.out.2.2.2.1 hd); obtain ⟨q0, q1, q2, q3, q4, q5⟩ := CA.out.below hd; have EN := HEN.out; clear hd; (go_simp <;> with_reducible rfl)
    try simp only [Act.put, List.setIfInBounds_toArray, List.set_cons_zero, List.set_cons_succ]
    refine wpAnyH_take (i := 10) (oi := ⟨some 25, _, _, _, _, _⟩) (v := ?_) rfl (by kernel_rfl) (by kernel_rfl) (by kernel_rfl) (fun _ _ _ h => h) (Or.inl ⟨by rfl, ?_⟩) hS ?_
    rotate_left 1
    · intro w' hB; have hd := (HC.out.to W1 (by simp)).trans (hB.mono (HC.out.to W1 (by simp)).size); have x0 := cell_of_row _ _ 0 _ _ _ (boxStays HBX.out hd); have x1 := cell_of_row _ _ 1 _ _ _ (boxStays HBX.out hd); have x2 := cell_of_row _ _ 2 _ _ _ (boxStays HBX.out hd); have x3 := cell_of_row _ _ 3 _ _ _ (boxStays HBX.out hd); have x4 := cell_of_row _ _ 4 _ _ _ (boxStays HBX.out hd); have e0 := cell_of_one (boxStays HI.out.1 hd); have e3 := cell_of_one (boxStays HI.out.2.2.2.1 hd); obtain ⟨q0, q1, q2, q3, q4, q5⟩ := CA.out.below hd; have EN := HEN.out; clear hd; (go_simp <;> with_reducible rfl)
    try simp only [Act.put, List.setIfInBounds_toArray, List.set_cons_zero, List.set_cons_succ]
    refine wpAnyH_take (i := 11) (oi := ⟨some 26, _, _, _, _, _⟩) (v := ?_) rfl (by kernel_rfl) (by kernel_rfl) (by kernel_rfl) (fun _ _ _ h => h) (Or.inl ⟨by rfl, ?_⟩) hS ?_
    rotate_left 1
    · intro w' hB; have hd := (HC.out.to W1 (by simp)).trans (hB.mono (HC.out.to W1 (by simp)).size); have x0 := cell_of_row _ _ 0 _ _ _ (boxStays HBX.out hd); have x1 := cell_of_row _ _ 1 _ _ _ (boxStays HBX.out hd); have x2 := cell_of_row _ _ 2 _ _ _ (boxStays HBX.out hd); have x3 := cell_of_row _ _ 3 _ _ _ (boxStays HBX.out hd); have x4 := cell_of_row _ _ 4 _ _ _ (boxStays HBX.out hd); have e0 := cell_of_one (boxStays HI.out.1 hd); have e3 := cell_of_one (boxStays HI.out.2.2.2.1 hd); obtain ⟨q0, q1, q2, q3, q4, q5⟩ := CA.out.below hd; have EN := HEN.out; clear hd; (go_simp <;> with_reducible rfl)
    try simp only [Act.put, List.setIfInBounds_toArray, List.set_cons_zero, List.set_cons_succ]
    refine wpAnyH_take (i := 12) (oi := ⟨some 27, _, _, _, _, _⟩) (v := ?_) rfl (by kernel_rfl) (by kernel_rfl) (by kernel_rfl) (fun _ _ _ h => h) (Or.inl ⟨by rfl, ?_⟩) hS ?_
    rotate_left 1
    · intro w' hB; have hd := (HC.out.to W1 (by simp)).trans (hB.mono (HC.out.to W1 (by simp)).size); have x0 := cell_of_row _ _ 0 _ _ _ (boxStays HBX.out hd); have x1 := cell_of_row _ _ 1 _ _ _ (boxStays HBX.out hd); have x2 := cell_of_row _ _ 2 _ _ _ (boxStays HBX.out hd); have x3 := cell_of_row _ _ 3 _ _ _ (boxStays HBX.out hd); have x4 := cell_of_row _ _ 4 _ _ _ (boxStays HBX.out hd); have e0 := cell_of_one (boxStays HI.out.1 hd); have e3 := cell_of_one (boxStays HI.out.2.2.2.1 hd); obtain ⟨q0, q1, q2, q3, q4, q5⟩ := CA.out.below hd; have EN := HEN.out; clear hd; (go_simp <;> with_reducible rfl)
    try simp only [Act.put, List.setIfInBounds_toArray, List.set_cons_zero, List.set_cons_succ]
    refine wpAnyH_take (i := 13) (oi := ⟨some 28, _, _, _, _, _⟩) (v := ?_) rfl (by kernel_rfl) (by kernel_rfl) (by kernel_rfl) (fun _ _ _ h => h) (Or.inl ⟨by rfl, ?_⟩) hS ?_
    rotate_left 1
    · intro w' hB; have hd := (HC.out.to W1 (by simp)).trans (hB.mono (HC.out.to W1 (by simp)).size); have x0 := cell_of_row _ _ 0 _ _ _ (boxStays HBX.out hd); have x1 := cell_of_row _ _ 1 _ _ _ (boxStays HBX.out hd); have x2 := cell_of_row _ _ 2 _ _ _ (boxStays HBX.out hd); have x3 := cell_of_row _ _ 3 _ _ _ (boxStays HBX.out hd); have x4 := cell_of_row _ _ 4 _ _ _ (boxStays HBX.out hd); have e0 := cell_of_one (boxStays HI.out.1 hd); have e3 := cell_of_one (boxStays HI.out.2.2.2.1 hd); obtain ⟨q0, q1, q2, q3, q4, q5⟩ := CA.out.below hd; have EN := HEN.out; clear hd; (go_simp <;> with_reducible rfl)
    try simp only [Act.put, List.setIfInBounds_toArray, List.set_cons_zero, List.set_cons_succ]
    refine wpAnyH_take (i := 14) (oi := ⟨some 29, _, _, _, _, _⟩) (v := ?_) rfl (by kernel_rfl) (by kernel_rfl) (by kernel_rfl) (fun _ _ _ h => h) (Or.inl ⟨by rfl, ?_⟩) hS ?_
    rotate_left 1
    · intro w' hB; have hd := (HC.out.to W1 (by simp)).trans (hB.mono (HC.out.to W1 (by simp)).size); have x0 := cell_of_row _ _ 0 _ _ _ (boxStays HBX.out hd); have x1 := cell_of_row _ _ 1 _ _ _ (boxStays HBX.out hd); have x2 := cell_of_row _ _ 2 _ _ _ (boxStays HBX.out hd); have x3 := cell_of_row _ _ 3 _ _ _ (boxStays HBX.out hd); have x4 := cell_of_row _ _ 4 _ _ _ (boxStays HBX.out hd); have e0 := cell_of_one (boxStays HI.out.1 hd); have e3 := cell_of_one (boxStays HI.out.2.2.2.1 hd); obtain ⟨q0, q1, q2, q3, q4, q5⟩ := CA.out.below hd; have EN := HEN.out; clear hd; (go_simp <;> with_reducible rfl)
    try simp only [Act.put, List.setIfInBounds_toArray, List.set_cons_zero, List.set_cons_succ]
    refine wpAnyH_take (i := 15) (oi := ⟨some 30, _, _, _, _, _⟩) (v := ?_) rfl (by kernel_rfl) (by kernel_rfl) (by kernel_rfl) (fun _ _ _ h => h) (Or.inl ⟨by rfl, ?_⟩) hS ?_
    rotate_left 1
    · intro w' hB; have hd := (HC.out.to W1 (by simp)).trans (hB.mono (HC.out.to W1 (by simp)).size); have x0 := cell_of_row _ _ 0 _ _ _ (boxStays HBX.out hd); have x1 := cell_of_row _ _ 1 _ _ _ (boxStays HBX.out hd); have x2 := cell_of_row _ _ 2 _ _ _ (boxStays HBX.out hd); have x3 := cell_of_row _ _ 3 _ _ _ (boxStays HBX.out hd); have x4 := cell_of_row _ _ 4 _ _ _ (boxStays HBX.out hd); have e0 := cell_of_one (boxStays HI.out.1 hd); have e3 := cell_of_one (boxStays HI.out.2.2.2.1 hd); obtain ⟨q0, q1, q2, q3, q4, q5⟩ := CA.out.below hd; have EN := HEN.out; clear hd; (go_simp <;> with_reducible rfl)
    try simp only [Act.put, List.setIfInBounds_toArray, List.set_cons_zero, List.set_cons_succ]
    refine wpAnyH_take (i := 16) (oi := ⟨some 31, _, _, _, _, _⟩) (v := ?_) rfl (by kernel_rfl) (by kernel_rfl) (by kernel_rfl) (fun _ _ _ h => h) (Or.inl ⟨by rfl, ?_⟩) hS ?_
    rotate_left 1
    · intro w' hB; have hd := (HC.out.to W1 (by simp)).trans (hB.mono (HC.out.to W1 (by simp)).size); have x0 := cell_of_row _ _ 0 _ _ _ (boxStays HBX.out hd); have x1 := cell_of_row _ _ 1 _ _ _ (boxStays HBX.out hd); have x2 := cell_of_row _ _ 2 _ _ _ (boxStays HBX.out hd); have x3 := cell_of_row _ _ 3 _ _ _ (boxStays HBX.out hd); have x4 := cell_of_row _ _ 4 _ _ _ (boxStays HBX.out hd); have e0 := cell_of_one (boxStays HI.out.1 hd); have e3 := cell_of_one (boxStays HI.out.2.2.2.1 hd); obtain ⟨q0, q1, q2, q3, q4, q5⟩ := CA.out.below hd; have EN := HEN.out; clear hd; (go_simp <;> with_reducible rfl)
    try simp only [Act.put, List.setIfInBounds_toArray, List.set_cons_zero, List.set_cons_succ]
    refine wpAnyH_take (i := 17) (oi := ⟨some 32, _, _, _, _, _⟩) (v := ?_) rfl (by kernel_rfl) (by kernel_rfl) (by kernel_rfl) (fun _ _ _ h => h) (Or.inl ⟨by rfl, ?_⟩) hS ?_
    rotate_left 1
    · intro w' hB; have hd := (HC.out.to W1 (by simp)).trans (hB.mono (HC.out.to W1 (by simp)).size); have x0 := cell_of_row _ _ 0 _ _ _ (boxStays HBX.out hd); have x1 := cell_of_row _ _ 1 _ _ _ (boxStays HBX.out hd); have x2 := cell_of_row _ _ 2 _ _ _ (boxStays HBX.out hd); have x3 := cell_of_row _ _ 3 _ _ _ (boxStays HBX.out hd); have x4 := cell_of_row _ _ 4 _ _ _ (boxStays HBX.out hd); have e0 := cell_of_one (boxStays HI.out.1 hd); have e3 := cell_of_one (boxStays HI.out.2.2.2.1 hd); obtain ⟨q0, q1, q2, q3, q4, q5⟩ := CA.out.below hd; have EN := HEN.out; clear hd; (go_simp <;> with_reducible rfl)
    try simp only [Act.put, List.setIfInBounds_toArray, List.set_cons_zero, List.set_cons_succ]
    refine wpAnyH_take (i := 18) (oi := ⟨some 33, _, _, _, _, _⟩) (v := ?_) rfl (by kernel_rfl) (by kernel_rfl) (by kernel_rfl) (fun _ _ _ h => h) (Or.inl ⟨by rfl, ?_⟩) hS ?_
    rotate_left 1
    · intro w' hB; have hd := (HC.out.to W1 (by simp)).trans (hB.mono (HC.out.to W1 (by simp)).size); have x0 := cell_of_row _ _ 0 _ _ _ (boxStays HBX.out hd); have x1 := cell_of_row _ _ 1 _ _ _ (boxStays HBX.out hd); have x2 := cell_of_row _ _ 2 _ _ _ (boxStays HBX.out hd); have x3 := cell_of_row _ _ 3 _ _ _ (boxStays HBX.out hd); have x4 := cell_of_row _ _ 4 _ _ _ (boxStays HBX.out hd); have e0 := cell_of_one (boxStays HI.out.1 hd); have e3 := cell_of_one (boxStays HI.out.2.2.2.1 hd); obtain ⟨q0, q1, q2, q3, q4, q5⟩ := CA.out.below hd; have EN := HEN.out; clear hd; (go_simp <;> with_reducible rfl)
    try simp only [Act.put, List.setIfInBounds_toArray, List.set_cons_zero, List.set_cons_succ]
    refine wpAnyH_take (i := 19) (oi := ⟨some 34, _, _, _, _, _⟩) (v := ?_) rfl (by kernel_rfl) (by kernel_rfl) (by kernel_rfl) (fun _ _ _ h => h) (Or.inl ⟨by rfl, ?_⟩) hS ?_
    rotate_left 1
    · intro w' hB; have hd := (HC.out.to W1 (by simp)).trans (hB.mono (HC.out.to W1 (by simp)).size); have x0 := cell_of_row _ _ 0 _ _ _ (boxStays HBX.out hd); have x1 := cell_of_row _ _ 1 _ _ _ (boxStays HBX.out hd); have x2 := cell_of_row _ _ 2 _ _ _ (boxStays HBX.out hd); have x3 := cell_of_row _ _ 3 _ _ _ (boxStays HBX.out hd); have x4 := cell_of_row _ _ 4 _ _ _ (boxStays HBX.out hd); have e0 := cell_of_one (boxStays HI.out.1 hd); have e3 := cell_of_one (boxStays HI.out.2.2.2.1 hd); obtain ⟨q0, q1, q2, q3, q4, q5⟩ := CA.out.below hd; have EN := HEN.out; clear hd; (go_simp <;> with_reducible rfl)
    try simp only [Act.put, List.setIfInBounds_toArray, List.set_cons_zero, List.set_cons_succ]
    refine wpAnyH_take (i := 20) (oi := ⟨some 35, _, _, _, _, _⟩) (v := ?_) rfl (by kernel_rfl) (by kernel_rfl) (by kernel_rfl) (fun _ _ _ h => h) (Or.inl ⟨by rfl, ?_⟩) hS ?_
    rotate_left 1
    · intro w' hB; have hd := (HC.out.to W1 (by simp)).trans (hB.mono (HC.out.to W1 (by simp)).size); have x0 := cell_of_row _ _ 0 _ _ _ (boxStays HBX.out hd); have x1 := cell_of_row _ _ 1 _ _ _ (boxStays HBX.out hd); have x2 := cell_of_row _ _ 2 _ _ _ (boxStays HBX.out hd); have x3 := cell_of_row _ _ 3 _ _ _ (boxStays HBX.out hd); have x4 := cell_of_row _ _ 4 _ _ _ (boxStays HBX.out hd); have e0 := cell_of_one (boxStays HI.out.1 hd); have e3 := cell_of_one (boxStays HI.out.2.2.2.1 hd); obtain ⟨q0, q1, q2, q3, q4, q5⟩ := CA.out.below hd; have EN := HEN.out; clear hd; (go_simp <;> with_reducible rfl)
    try simp only [Act.put, List.setIfInBounds_toArray, List.set_cons_zero, List.set_cons_succ]
    refine wpAnyH_take (i := 21) (oi := ⟨some 36, _, _, _, _, _⟩) (v := ?_) rfl (by kernel_rfl) (by kernel_rfl) (by kernel_rfl) (fun _ _ _ h => h) (Or.inl ⟨by rfl, ?_⟩) hS ?_
    rotate_left 1
    · intro w' hB; have hd := (HC.out.to W1 (by simp)).trans (hB.mono (HC.out.to W1 (by simp)).size); have x0 := cell_of_row _ _ 0 _ _ _ (boxStays HBX.out hd); have x1 := cell_of_row _ _ 1 _ _ _ (boxStays HBX.out hd); have x2 := cell_of_row _ _ 2 _ _ _ (boxStays HBX.out hd); have x3 := cell_of_row _ _ 3 _ _ _ (boxStays HBX.out hd); have x4 := cell_of_row _ _ 4 _ _ _ (boxStays HBX.out hd); have e0 := cell_of_one (boxStays HI.out.1 hd); have e3 := cell_of_one (boxStays HI.out.2.2.2.1 hd); obtain ⟨q0, q1, q2, q3, q4, q5⟩ := CA.out.below hd; have EN := HEN.out; clear hd; (go_simp <;> with_reducible rfl)
    try simp only [Act.put, List.setIfInBounds_toArray, List.set_cons_zero, List.set_cons_succ]
    refine wpAnyH_done (by kernel_rfl) (OnlyN.normal ?_) _
    generalize W1.drew = w6 at *
    have H16 := Lib.hid hS
    have hpw : IntKind.i64.wrap ((pre.length : Int) + 1) = (pre.length : Int) + 1 := wr64 (by omega) (by omega)
    have J1 := Lib.hid (boxStays HI.out.1 H16.out)
    have J2 := Lib.hid (boxStays HI.out.2.1 H16.out)
    have J3 := Lib.hid (boxStays HI.out.2.2.1 H16.out)
    have J4 := Lib.hid (boxStays HI.out.2.2.2.1 H16.out)
    have KT : Hid (KeepE (W5.heap.size + 2) S (fun _ => False) W1 w6) := Lib.hid (KeepE.below H16.out (fun k hk => by have := HSd k hk; omega))
    have KF : Hid (KeepsFrom W5.heap.size W1 w6) := Lib.hid (keepsFrom_below H16.out _)
    have hBw : Hid (Below s w w6) := Lib.hid (HI.out.2.2.2.2.trans (H16.out.mono (by omega)))
    have NS3 : Hid (¬ S (s + 1 + 1 + 1)) := Lib.hid (fun h => by have := HSd _ h; omega)
    have NS2 : Hid (¬ S (s + 1 + 1)) := Lib.hid (fun h => by have := HSd _ h; omega)
    clear HC hS
    have e2 := cell_of_one J2.out
    have e3 := cell_of_one J3.out
    have f3 := frozen_of_row _ (s + 1 + 1) 0 _ _ J3.out
    have e4 := cell_of_one J4.out
    have f4 := frozen_of_row _ (s + 1 + 1 + 1) 0 _ _ J4.out
    by_cases hlv : (pre.length : Int) + 1 = leave
    · have hlb : ((pre.length : Int) + 1 == leave) = true := by simpa using hlv
      gi_wp2
      exact ⟨(KF.out.trans ((KeepsOthers.setCell _ _ _).from _)).trans ((KeepsOthers.setCell _ _ _).from _),
        (KT.out.trans (KeepE.setCell _ _ _ _ (by omega) NS3.out)).trans (KeepE.setCell _ _ _ _ (by omega) NS2.out), rfl,
        (Boxed.other (t := 4) (B := s + 1 + 1) (B' := s + 1 + 1 + 1) J3.out (by omega) _).set _, (hBw.out.setCell (p := ⟨s + 1 + 1 + 1, 0, none⟩) (show s ≤ s + 1 + 1 + 1 by omega) _).setCell (p := ⟨s + 1 + 1, 0, none⟩) (show s ≤ s + 1 + 1 by omega) _⟩
    · have hlb : ((pre.length : Int) + 1 == leave) = false := by simpa using hlv
      gi_wp2
      refine ⟨KF.out.trans ((KeepsOthers.setCell _ _ _).from _), KT.out.trans (KeepE.setCell _ _ _ _ (by omega) NS3.out), Boxed.other (t := 22) J1.out (by omega) _, Boxed.other (t := 3) J2.out (by omega) _, Boxed.other (t := 4) J3.out (by omega) _, ?_, hBw.out.setCell (p := ⟨s + 1 + 1 + 1, 0, none⟩) (show s ≤ s + 1 + 1 + 1 by omega) _⟩
      have h1 := Boxed.set (t := 3) (.int .i64 ((pre.length : Int) + 1)) J4.out
      simpa using h1
  case done =>
    rintro D ys W1 hD ⟨rfl, hI⟩ hK
    have e1 := cell_of_one hI.1
    have e4 := cell_of_one hI.2.2.2.1
    have e3 := cell_of_one hI.2.2.1
    have f3 := frozen_of_row _ (s + 2) 0 _ _ hI.2.2.1
    have hnl : (ys.length : Int) = (n : Int) := by have := HN.out; omega
    rw [hnl] at e4
    have HI := Lib.hid hI
    have HK := Lib.hid hK
    clear hI hK hnl HIter c1 c2 c3 c4
    simp only [Exit.inBlock]
    gi_wp2
    have hK2 : (W1.setCell ⟨s + 1 + 1, 0, none⟩ (.bool true)).heap[D]? = some (.deferred (some [])) := (Below.heap_setCell _ _ _ _ (by simp; omega)).trans HK.out
    have hB2 : Boxed (W1.setCell ⟨s + 1 + 1, 0, none⟩ (.bool true)) (s + 1 + 1) 4 (.bool true) := Boxed.set (t := 4) _ HI.out.2.2.1
    have k0 := cell_of_one (Boxed.kept (t := 4) hB2 (grownBy_putObj' _ D (.deferred none)) (by simp; omega))
    refine ⟨by simp, .inl ⟨_, _, rfl, run_takeDeferred hK2, ?_⟩⟩
    refine ⟨.bool true, by simp [results, Try.results68, go_sem, k0], rfl, ?_⟩
    rw [← HS.out]
    exact (HI.out.2.2.2.2.setCell (p := ⟨s + 1 + 1, 0, none⟩) (show s ≤ s + 1 + 1 by omega) _).trans (belowK_b (w := W5) (n₀ := s) (by omega) _ D _ _ hD hK2 rfl rfl)
  case stop =>
    rintro D c pre W1 hD hSp ⟨rfl, hbx, hbl⟩ hK
    have HK := Lib.hid hK
    have HBX := Lib.hid hbx
    clear hK hbx HIter c1 c2 c3 c4
    gi_wp2
    have k0 := cell_of_one (Boxed.kept (t := 4) HBX.out (grownBy_putObj' _ D (.deferred none)) (by simp; omega))
    refine ⟨by simp, .inl ⟨_, _, rfl, run_takeDeferred HK.out, ?_⟩⟩
    refine ⟨.bool true, by simp [results, Try.results68, go_sem, k0], rfl, ?_⟩
    rw [← HS.out]
    exact hbl.trans (belowK_b (w := W5) (n₀ := s) (by omega) _ D _ _ hD HK.out rfl rfl)
end Go.Proofs.Ytnpiepimajippaa
namespace Go.Proofs.Ytnpiepimajippaa
open Go.RowKit St Pm
def zeroE : Ev := (⟨0, 0, ⟨#[]⟩, 0, 0⟩, ⟨#[]⟩)
theorem el_one (e : Ev) : (#[.int .i64 e.1.g, .int .i64 e.1.r, .string e.1.l, .int .i64 e.1.n, .int .i64 e.1.i, .string e.2] : Array Value).all (·.oneCell') = true := by simp [Value.oneCell']
end Go.Proofs.Ytnpiepimajippaa
