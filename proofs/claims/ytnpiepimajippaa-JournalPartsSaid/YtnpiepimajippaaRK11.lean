/- Words, contracts and walks that the proof stands on (OwB14 OwC14 EvZ RgP ItP JoA JoB). -/
import Derived.OwnWalkIn
import Derived.Scope
import Derived.Test.YtnpiepimajippaaRK1
import Derived.Test.YtnpiepimajippaaRK10
import Derived.Test.YtnpiepimajippaaRK4
import Derived.Test.YtnpiepimajippaaRK8
import Derived.WalkMore
namespace Go.Proofs.Ytnpiepimajippaa
open Go.RowKit St Pm
attribute [local go_sem] Oper.semAt_some
def OwI14 (H : List (Nat × Obj)) (c B : Nat) (w : World) (pre : List (ByteArray × ByteArray)) (W : World) : Prop :=
 (∀ p ∈ pre, goodP p = true) ∧ (∃ v, Boxed W c 22 v ∧ W.ownsRow B 47 6 v pre.length (elsV (pre.map decV)) ∧ True) ∧ Facts H W ∧ Below w.heap.size w W
theorem owI_own14 {H : List (Nat × Obj)} {c B : Nat} {w : World} {M : Nat} (hH : ∀ p ∈ H, p.1 < M) (hw : w.heap.size ≤ M) : OwnFrom M (OwI14 H c B w) := by
 rintro pre A A' row ⟨h1, h2, h3, h4⟩ hg hr
 exact ⟨h1, (holdsRow_own B c _ _ 6 (fun pre : List (ByteArray × ByteArray) => pre.length) (fun pre => elsV (pre.map decV)) (fun _ _ => True)).from M pre A A' row h2 hg hr, facts_own (β := Unit) H M hH () A A' row h3 hg hr, ownFrom_below (β := Unit) (Nat.le_refl _) hw () A A' row h4 hg hr⟩
def OwX14 (H : List (Nat × Obj)) (c : Nat) (w : World) (pre : List (ByteArray × ByteArray)) (W : World) : Prop :=
 (∃ p ∈ pre, goodP p = false) ∧ Boxed W c 22 (.slice none 0 0) ∧ Facts H W ∧ Below w.heap.size w W
theorem owX_own14 {H : List (Nat × Obj)} {c : Nat} {w : World} {M : Nat} (hH : ∀ p ∈ H, p.1 < M) (hc : c < M) (hw : w.heap.size ≤ M) : OwnFrom M (OwX14 H c w) := by
 rintro pre A A' row ⟨h1, h2, h3, h4⟩ hg hr
 exact ⟨h1, own_block (β := Unit) hc () A A' row h2 hg hr, facts_own (β := Unit) H M hH () A A' row h3 hg hr, ownFrom_below (β := Unit) (Nat.le_refl _) hw () A A' row h4 hg hr⟩
set_option maxRecDepth 100000 in
set_option maxHeartbeats 4000000 in
theorem own_14 (tr : Tr ByteArray) (w : World) (h : AtS w tr) (hz : sz tr ≤ 100000) (hk : ∀ p ∈ items tr, p.1.size ≤ 9223372036854775807) :
   Calls Try.prog 112 #[.agg #[.pointer (pa tr)]] w fun e w' =>
     ∃ v b, e = .returned (.tuple #[v, .bool b]) ∧ Below w.heap.size w w' ∧
       ((b = true ∧ (∀ p ∈ items tr, goodP p = true) ∧ w'.ownsRow w.heap.size 47 6 v (items tr).length (elsV ((items tr).map decV))) ∨
        (b = false ∧ v = .slice none 0 0 ∧ ∃ p ∈ items tr, goodP p = false)) := by
 obtain ⟨z, hz0⟩ : ∃ z, w.heap.size = z := ⟨_, rfl⟩
 have HT := Lib.hid h
 have HK := Lib.hid hk
 clear h hk
 refine (callsIn_wide (n := 6)).1 ?_
 refine callsIn_of_wp_marks Try.func112 rfl trivial ?_ rfl
 simp only [Try.ntmps112, List.size_toArray, List.length_cons, List.length_nil, Nat.reduceAdd, Nat.reduceSub, Array.replicate_succ, Array.replicate_zero, List.push_toArray, List.append_toArray, List.nil_append, List.cons_append]
 refine wpIn_wide.2 ?_
 go_upto_region 1 with (fail)
 go_step3
 go_wp2_with fail
 go_step3
 go_wp2_with fail
 obtain ⟨w3, hw3⟩ : ∃ W, allocs w [.cells #[.pointer (pa tr)] 27, .cells #[.slice none 0 0] 22, .cells #[.func (.func 136) #[] #[.pointer (some ⟨z + 1, 0, none⟩)]] 132] = W := ⟨_, rfl⟩
 rw [show ((w.alloc (.cells #[.pointer (pa tr)] 27)).alloc (.cells #[.slice none 0 0] 22)).alloc (.cells #[.func (.func 136) #[] #[.pointer (some ⟨z + 1, 0, none⟩)]] 132) = w3 from hw3]
 have hb3 : Below w.heap.size w w3 := by rw [← hw3]; exact allocs_below _ _
 have hx3 : ∀ i ob, [Obj.cells #[.pointer (pa tr)] 27, .cells #[.slice none 0 0] 22, .cells #[.func (.func 136) #[] #[.pointer (some ⟨z + 1, 0, none⟩)]] 132][i]? = some ob → w3.heap[z + i]? = some ob := fun i ob h => by have := allocs_get _ w i ob h; rw [hw3, hz0] at this; exact this
 have F3 : Hid (Facts [(z, .cells #[.pointer (pa tr)] 27 (0, 0)), (z + 1 + 1, .cells #[.func (.func 136) #[] #[.pointer (some ⟨z + 1, 0, none⟩)]] 132 (0, 0))] w3) := Lib.hid (fun p hp => by
   simp only [List.mem_cons, List.not_mem_nil, or_false] at hp
   rcases hp with rfl | rfl
   · exact hx3 0 _ rfl
   · exact hx3 2 _ rfl)
 have Y3 : Hid (Boxed w3 (z + 1) 22 (.slice none 0 0)) := Lib.hid (hx3 1 _ rfl)
 have B3 := Lib.hid hb3
 have hz3 : z + 3 ≤ w3.heap.size := by have := (Array.getElem?_eq_some_iff.1 (hx3 2 _ rfl)).1; omega
 clear hb3 hx3 hw3
 refine (pm_MAllS tr w3).mono ?_
 rintro e w5 ⟨kb, mb, rfl, hkb, hmb, hbk, hbm, hb⟩
 have hT5 := HT.out.below (B3.out.trans (hb.mono B3.out.size)) rfl
 have hF5 := F3.out.below hb
 have hY5 := boxStays Y3.out hb
 have hW5 : Below w.heap.size w w5 := B3.out.trans (hb.mono B3.out.size)
 have hz5 : z + 3 ≤ w5.heap.size := by have := hb.size; omega
 obtain ⟨H, hH⟩ : ∃ H : List (Nat × Obj), [(z, .cells #[.pointer (pa tr)] 27 (0, 0)), (z + 1 + 1, .cells #[.func (.func 136) #[] #[.pointer (some ⟨z + 1, 0, none⟩)]] 132 (0, 0))] = H := ⟨_, rfl⟩
 have hHz : ∀ p ∈ H, p.1 < z + 3 ∧ p.1 ≠ z + 1 := by
   intro p hp
   rw [← hH] at hp
   simp only [List.mem_cons, List.not_mem_nil, or_false] at hp
   rcases hp with rfl | rfl <;> simp
 have hHm : (z, Obj.cells #[.pointer (pa tr)] 27 (0, 0)) ∈ H ∧ (z + 1 + 1, Obj.cells #[.func (.func 136) #[] #[.pointer (some ⟨z + 1, 0, none⟩)]] 132 (0, 0)) ∈ H := by rw [← hH]; simp
 have hSlt : ∀ k, (k = kb ∨ k ∈ blocks tr) → k < w5.heap.size := fun k hk => by
   rcases hk with rfl | hk
   · exact (Array.getElem?_eq_some_iff.1 hbk).1
   · exact hT5.lt k hk
 have hSB : ∀ k, (k = kb ∨ k ∈ blocks tr) → k < w5.heap.size ∧ k ≠ z + 1 := fun k hk => ⟨hSlt k hk, by
   rcases hk with rfl | hk
   · omega
   · have := HT.out.lt k hk; omega⟩
 have HIter := pm_from_iterS 5 ⟨#[]⟩ tr kb mb w5 (fun k => k = kb ∨ k ∈ blocks tr) (fun x => x = 47) hbk hbm hT5 (.inl rfl) (fun k hk => .inr hk) hSlt (by decide) (by decide)
 rw [fromL_all] at HIter
 have r5 : OwI14 H (z + 1) w5.heap.size w [] w5 := ⟨fun p hp => (by cases hp), ⟨_, hY5, World.ownsRow_nil _ _ _ _, trivial⟩, by rw [← hH]; exact hF5, hW5⟩
 have OWN : ∀ B, w5.heap.size ≤ B → OwnFrom B (OwI14 H (z + 1) w5.heap.size w) := fun B hB => owI_own14 (fun p hp => by have := (hHz p hp).1; omega) (by omega)
 clear hT5 hF5 hY5 hW5 hb hbk hbm
 go_wp2_with fail
 refine (wpIn_wide (n := 6)).1 ?_
 have HH := Lib.hid hHm
 clear F3 Y3 B3 hH hHm
 refine range_law2 (n := 6) rfl (enters_of Try.func139 (by kernel_rfl) rfl) HIter (by omega) KeepE.trans (fun W o o' _ _ => KeepE.put W _ o' (by omega) (fun k hk => by have := hSlt k hk; omega)) (fun x => rfl) (fun pre => (by rintro _ _ _ _ h _ _; exact h)) ?_ (OwI14 H (z + 1) w5.heap.size w) (fun c pre W => c = .exit 0 ∧ OwX14 H (z + 1) w pre W) (fun xs W => xs = items tr ∧ OwI14 H (z + 1) w5.heap.size w xs W) (OWN _ (Nat.le_refl _)) ?_ ?_ ?_ r5
   (fun pre q a' W => OwI14 H (z + 1) w5.heap.size w pre W ∧ pre ++ [q] <+: items tr ∧ a' = { tmps := #[.agg #[.pointer (pa tr)], .pointer (some ⟨z, 0, none⟩), .slice none 0 0, .bool false, .pointer (some ⟨z + 1, 0, none⟩), .pointer (some ⟨z + 1 + 1, 0, none⟩), .string q.1, .string q.2, undef, undef, .func (.func 136) #[] #[.pointer (some ⟨z + 1, 0, none⟩)], .agg #[.pointer (pa tr)], .func (.func 139) #[] #[.pointer (some ⟨kb, 0, none⟩), .pointer (some ⟨mb, 0, none⟩)], .string q.1, .string q.2, undef, undef, undef, undef, undef, undef, undef, undef, undef, undef, undef, undef, undef, undef, undef, undef, undef, undef, undef, undef, undef, undef], defers := [] }) ?_ ?assign ?body ?done ?stop
 · rintro W1 _ xs A B ⟨_, rfl⟩ k o _ ho _; exact ho
 · rintro c xs A A' row ⟨h1, h2⟩ hg hr
   exact ⟨h1, owX_own14 (fun p hp => by have := (hHz p hp).1; omega) (by omega) (by omega) xs A A' row h2 hg hr⟩
 · rintro xs A A' row ⟨h1, h2⟩ hg hr
   exact ⟨h1, OWN _ (Nat.le_refl _) xs A A' row h2 hg hr⟩
 · rintro W1 _ xs A B h ⟨h1, rfl⟩; exact ⟨h1, h⟩
 · rintro q a' pre A A' row ⟨h1, h2, h3⟩ hg hr
   exact ⟨OWN _ (Nat.le_refl _) pre A A' row h1 hg hr, h2, h3⟩
 case assign =>
   intro l pre q W K hi hx hsz hK
   have HI := Lib.hid hi
   clear hi
   simp only [encKVS, List.zip_toArray, List.zip_cons_cons, List.zip_nil_right, List.foldl_toArray, List.foldl_cons, List.foldl_nil]
   gi_wp2
   exact hK _ _ ⟨Nat.le_refl _, fun _ _ _ h _ => h⟩ (KeepE.refl _) hsz ⟨HI.out, hx, rfl⟩
 case body =>
   rintro l pre ⟨k, v⟩ a' W ⟨⟨h1, ⟨u, h2, h3, _⟩, h4, h5⟩, hp, rfl⟩ hsz
   have hmem : (k, v) ∈ items tr := hp.subset (by simp)
   have hks := HK.out _ hmem
   have hpl : pre.length + 1 ≤ sz tr := by have := hp.length_le; rw [sz_items] at this; simpa using this
   have G9 := Lib.hid h1
   have Y9 := Lib.hid h2
   have R9 := Lib.hid h3
   have F9 := Lib.hid h4
   have B9 := Lib.hid h5
   have hSW : ∀ k', (k' = kb ∨ k' ∈ blocks tr) → k' < W.heap.size := fun k' hk' => Nat.lt_of_lt_of_le (hSlt k' hk') hsz
   have BAD : Hid (∀ (X : World) (u' : Value), Below W.heap.size W X → Boxed X (z + 1) 22 u' → goodP (k, v) = false →
       KeepsFrom w5.heap.size W (X.setCell ⟨z + 1, 0, none⟩ (.slice none 0 0)) ∧ KeepE (w5.heap.size + 2) (fun k => k = kb ∨ k ∈ blocks tr) (fun x => x = 47) W (X.setCell ⟨z + 1, 0, none⟩ (.slice none 0 0)) ∧ OwX14 H (z + 1) w (pre ++ [(k, v)]) (X.setCell ⟨z + 1, 0, none⟩ (.slice none 0 0))) := Lib.hid (fun X u' hX hY hbad =>
     ⟨⟨by simpa [World.setCell] using hX.size, fun k' o2 hk' ho2 hc => (Below.heap_setCell _ _ _ _ (by simp; omega)).trans ((hX.block k' (Array.getElem?_eq_some_iff.1 ho2).1).trans ho2)⟩,
       (KeepE.below hX hSW).trans (KeepE.setCell X (z + 1) 0 _ (by omega) (fun h => (hSB _ h).2 rfl)),
       ⟨(k, v), by simp, hbad⟩, Boxed.set _ hY, (F9.out.below hX).setCell (fun p hp => (hHz p hp).2) _, (B9.out.trans (hX.mono B9.out.size)).setCell (p := ⟨z + 1, 0, none⟩) (by simp; omega) _⟩)
   clear HIter r5 OWN h1 h2 h3 h4 h5 hp hmem
   gi_wp2
   refine ⟨trivial, ?_⟩
   refine (CallsIn.inRound l (callsIn_wide.2 (stp_OfKey k W hks))).mono ?_
   rintro e W2 ⟨rfl, hb⟩
   have bb : Below W.heap.size W W2 := hb
   rcases hok : ofK k with _ | s
   · have hbad : goodP (k, v) = false := by unfold goodP; rw [hok]; rfl
     have BD := Lib.hid hbad
     have Y2 := Lib.hid (boxStays Y9.out hb)
     have BB := Lib.hid bb
     clear hbad hok hb bb
     simp only [stO]
     have c2 := cell_of_one (boxStays Y2.out (below_new W2 (.cells #[.int .i64 0, .int .i64 0, .string ⟨#[]⟩, .int .i64 0, .int .i64 0] 41)))
     have f2 := frozen_of_row _ (z + 1) 0 _ _ (boxStays Y2.out (below_new W2 (.cells #[.int .i64 0, .int .i64 0, .string ⟨#[]⟩, .int .i64 0, .int .i64 0] 41)))
     gi_wp2
     refine ⟨trivial, ?_⟩
     gi_wp2
     exact (fun h => ⟨h.1, h.2.1, rfl, h.2.2⟩) (BAD.out _ _ (BB.out.alloc (by have := BB.out.size; omega) _) (boxStays Y2.out (below_new W2 _)) BD.out)
   · have Y2 := Lib.hid (boxStays Y9.out hb)
     have BB := Lib.hid bb
     have OK := Lib.hid hok
     clear hok hb bb
     simp only [stO, stA]
     gi_wp2
     refine ⟨trivial, ?_⟩
     refine (CallsIn.inRound l (callsIn_wide.2 (fits14 v _))).mono ?_
     rintro e W3 ⟨rfl, rfl⟩
     by_cases hv : v.size ≤ 256
     · have hgood : goodP (k, v) = true := by unfold goodP; rw [OK.out]; simpa using hv
       have GD := Lib.hid hgood
       have hv' : decide (v.size ≤ 256) = true := by simpa using hv
       rw [hv']
       clear hgood hv hv'
       have bS := below_new W2 (.cells #[.int .i64 s.g, .int .i64 s.r, .string s.l, .int .i64 s.n, .int .i64 s.i] 41)
       have xS := heap_alloc_new W2 (.cells #[.int .i64 s.g, .int .i64 s.r, .string s.l, .int .i64 s.n, .int .i64 s.i] 41)
       have BS : Hid (Below W.heap.size W (W2.alloc (.cells #[.int .i64 s.g, .int .i64 s.r, .string s.l, .int .i64 s.n, .int .i64 s.i] 41))) := Lib.hid (BB.out.trans (bS.mono BB.out.size))
       generalize W2.alloc (.cells #[.int .i64 s.g, .int .i64 s.r, .string s.l, .int .i64 s.n, .int .i64 s.i] 41) = W3 at *
       have q0 := cell_of_row _ _ 0 _ _ _ xS
       have q1 := cell_of_row _ _ 1 _ _ _ xS
       have q2 := cell_of_row _ _ 2 _ _ _ xS
       have q3 := cell_of_row _ _ 3 _ _ _ xS
       have q4 := cell_of_row _ _ 4 _ _ _ xS
       have qf := cell_of_one (F9.out.below BS.out _ HH.out.2)
       clear bS xS Y2
       gi_wp2
       refine ⟨trivial, ?_⟩
       refine (CallsIn.inRound l (callsIn_wide.2 (own1_14 s v (z + 1) w5.heap.size pre.length u _ W3 (boxStays Y9.out BS.out) (own_later R9.out BS.out (Nat.le_refl _)) (Nat.le_trans hsz BS.out.size) (by omega) (by omega)))).mono ?_
       rintro e W4 ⟨u', rfl, hY4, hR4, hRK⟩
       have RK := RowKeep.after BS.out hRK
       have hdec : decV (k, v) = (s, v) := by unfold decV; rw [OK.out]; rfl
       have hrow : W4.ownsRow w5.heap.size 47 6 u' (pre ++ [(k, v)]).length (elsV ((pre ++ [(k, v)]).map decV)) := by
         have e1 : elsV ((pre ++ [(k, v)]).map decV) = elsV (pre.map decV) ++ elV (s, v) := by simp [elsV, hdec]
         rw [e1, List.length_append, List.length_singleton]
         exact hR4
       have hfin : KeepsFrom w5.heap.size W W4 ∧ KeepE (w5.heap.size + 2) (fun k => k = kb ∨ k ∈ blocks tr) (fun x => x = 47) W W4 ∧ OwI14 H (z + 1) w5.heap.size w (pre ++ [(k, v)]) W4 :=
         ⟨RK.from Y9.out R9.out _, RowKeep.keepE (t := 47) (u := u) RK R9.out hSB hSW (by omega), fun p hp => by
           rcases List.mem_append.1 hp with hp | hp
           · exact G9.out p hp
           · rw [List.mem_singleton.1 hp]; exact GD.out, ⟨u', hY4, hrow, trivial⟩, RK.facts F9.out (fun p hp => (hHz p hp).2) R9.out (fun p hp => by have := (hHz p hp).1; omega), B9.out.trans (RK.below (by omega) R9.out (by omega) B9.out.size)⟩
       have FIN := Lib.hid hfin
       clear RK hRK hY4 hR4 hrow hfin hdec
       gi_wp2
       exact FIN.out
     · have hbad : goodP (k, v) = false := by unfold goodP; rw [OK.out]; simpa using hv
       have BD := Lib.hid hbad
       have hv' : decide (v.size ≤ 256) = false := by simpa using hv
       rw [hv']
       clear hbad hv hv'
       have c2 := cell_of_one (boxStays Y2.out (below_new W2 (.cells #[.int .i64 s.g, .int .i64 s.r, .string s.l, .int .i64 s.n, .int .i64 s.i] 41)))
       have f2 := frozen_of_row _ (z + 1) 0 _ _ (boxStays Y2.out (below_new W2 (.cells #[.int .i64 s.g, .int .i64 s.r, .string s.l, .int .i64 s.n, .int .i64 s.i] 41)))
       gi_wp2
       exact (fun h => ⟨h.1, h.2.1, rfl, h.2.2⟩) (BAD.out _ _ (BB.out.alloc (by have := BB.out.size; omega) _) (boxStays Y2.out (below_new W2 _)) BD.out)
 case done =>
   rintro D xs W1 hD ⟨rfl, h1, ⟨u, h2, h3, _⟩, h4, h5⟩ hK
   obtain ⟨n, hn⟩ : ∃ n, sz tr = n := ⟨_, rfl⟩
   have HN := Lib.hid hn
   rw [sz_items, hn] at h3
   obtain ⟨a6, cp6, hv6, _⟩ := own_slice h3
   subst hv6
   have R9 := Lib.hid h3
   have G9 := Lib.hid h1
   clear h1 h3 hn
   have F9 := Lib.hid h4
   have B9 := Lib.hid h5
   have hT1 := Lib.hid (HT.out.below h5 rfl)
   have Y9 := Lib.hid h2
   have HKD := Lib.hid hK
   clear HIter r5 OWN h2 h4 h5 hK
   simp only [Exit.inBlock]
   go_upto_region 10 with (fail)
   refine relG_start (slots := [31, 32, 33, 34, 35, 36, 2, 3]) (so := []) (by kernel_rfl) (by kernel_rfl) (by rfl) ?_
   refine relG_pure (i := 0) (o := ⟨some 31, _, _, _, _, _⟩) (v := ?v1) [] [4] rfl rfl (by kernel_rfl) (by kernel_rfl) (fun t w1 hB hf hbf => ?y1) ?n1
   case y1 =>
     simp only [BasF] at hbf
     clear hf
     obtain ⟨⟨b4, k4⟩, _⟩ := hbf
     have k1 := cell_of_one (boxStays Y9.out hB)
     have k0 := cell_of_one (F9.out.below hB _ HH.out.1)
     refine Or.inl ⟨wanted_none rfl, ?_⟩
     rintro _ rfl
     go_simp <;> with_reducible rfl
   refine relG_pure (i := 1) (o := ⟨some 32, _, _, _, _, _⟩) (v := ?v2) [] [4] rfl rfl (by kernel_rfl) (by kernel_rfl) (fun t w1 hB hf hbf => ?y2) ?n2
   case y2 =>
     simp only [BasF] at hbf
     clear hf
     obtain ⟨⟨b4, k4⟩, _⟩ := hbf
     have k1 := cell_of_one (boxStays Y9.out hB)
     have k0 := cell_of_one (F9.out.below hB _ HH.out.1)
     refine Or.inl ⟨wanted_none rfl, ?_⟩
     rintro _ rfl
     go_simp <;> with_reducible rfl
   refine relG_pure (i := 2) (o := ⟨some 33, _, _, _, _, _⟩) (v := ?v3) [(1, 32, 0)] [] rfl rfl (by kernel_rfl) (by kernel_rfl) (fun t w1 hB hf hbf => ?y3) ?n3
   case y3 =>
     simp only [DepF, List.getD_cons_zero] at hf
     obtain ⟨⟨_, ⟨e32, i32⟩, rfl⟩, _⟩ := hf
     clear hbf
     have k1 := cell_of_one (boxStays Y9.out hB)
     have k0 := cell_of_one (F9.out.below hB _ HH.out.1)
     refine Or.inl ⟨wanted_none rfl, ?_⟩
     rintro _ rfl
     go_simp <;> with_reducible rfl
   refine relG_pure (i := 3) (o := ⟨some 34, _, _, _, _, _⟩) (v := ?v4) [] [1] rfl rfl (by kernel_rfl) (by kernel_rfl) (fun t w1 hB hf hbf => ?y4) ?n4
   case y4 =>
     simp only [BasF] at hbf
     clear hf
     obtain ⟨⟨b1, k1⟩, _⟩ := hbf
     have k1 := cell_of_one (boxStays Y9.out hB)
     have k0 := cell_of_one (F9.out.below hB _ HH.out.1)
     refine Or.inl ⟨wanted_none rfl, ?_⟩
     rintro _ rfl
     go_simp <;> with_reducible rfl
   refine relG_call (i := 4) (o := ⟨some 35, _, _, _, _, _⟩) ((fun v _ => v = .int .i64 (n : Int))) [(3, 34, 0)] [] rfl rfl (by kernel_rfl) (by kernel_rfl) ((fun _ _ _ h _ => h)) ?_ ?_
   · intro t w1 hB hf hbf K hK
     simp only [DepF, List.getD_cons_zero] at hf
     obtain ⟨⟨_, ⟨e34, i34⟩, rfl⟩, _⟩ := hf
     clear hbf
     have k1 := cell_of_one (boxStays Y9.out hB)
     have k0 := cell_of_one (F9.out.below hB _ HH.out.1)
     refine ⟨wanted_none rfl, ?_⟩
     go_simp
     refine (HN.out ▸ pm_MLenS tr w1 (hT1.out.below hB rfl)).mono ?_
     rintro e w2 ⟨rfl, hb⟩
     exact hK.out _ w2 (rfl) hb
   refine relG_pure (i := 5) (o := ⟨some 36, _, _, _, _, _⟩) (v := ?v5) [(2, 33, 2), (4, 35, 0)] [] rfl rfl (by kernel_rfl) (by kernel_rfl) (fun t w1 hB hf hbf => ?y5) ?n5
   case y5 =>
     simp only [DepF, List.getD_cons_zero, List.getD_cons_succ] at hf
     obtain ⟨⟨_, ⟨e33, i33⟩, rfl⟩, ⟨_, ⟨e35, i35⟩, rfl⟩, _⟩ := hf
     clear hbf
     have k1 := cell_of_one (boxStays Y9.out hB)
     have k0 := cell_of_one (F9.out.below hB _ HH.out.1)
     refine Or.inl ⟨wanted_none rfl, ?_⟩
     rintro _ rfl
     go_simp <;> with_reducible rfl
   refine relG_pure (i := 6) (o := ⟨some 2, _, _, _, _, _⟩) (v := ?v6) [(0, 31, 5)] [] rfl rfl (by kernel_rfl) (by kernel_rfl) (fun t w1 hB hf hbf => ?y6) ?n6
   case y6 =>
     simp only [DepF, List.getD_cons_zero, List.getD_cons_succ] at hf
     obtain ⟨⟨_, ⟨e31, i31⟩, rfl⟩, _⟩ := hf
     clear hbf
     have k1 := cell_of_one (boxStays Y9.out hB)
     have k0 := cell_of_one (F9.out.below hB _ HH.out.1)
     refine Or.inl ⟨wanted_none rfl, ?_⟩
     rintro _ rfl
     go_simp <;> with_reducible rfl
   refine relG_pure (i := 7) (o := ⟨some 3, _, _, _, _, _⟩) (v := ?v7) [(5, 36, 1)] [] rfl rfl (by kernel_rfl) (by kernel_rfl) (fun t w1 hB hf hbf => ?y7) ?n7
   case y7 =>
     simp only [DepF, List.getD_cons_zero, List.getD_cons_succ] at hf
     obtain ⟨⟨_, ⟨e36, i36⟩, rfl⟩, _⟩ := hf
     clear hbf
     have k1 := cell_of_one (boxStays Y9.out hB)
     have k0 := cell_of_one (F9.out.below hB _ HH.out.1)
     refine Or.inl ⟨wanted_none rfl, ?_⟩
     rintro _ rfl
     go_simp <;> with_reducible rfl
   refine relG_done [(0, 31, 7), (1, 32, 6), (2, 33, 5), (3, 34, 4), (4, 35, 3), (5, 36, 2), (6, 2, 1), (7, 3, 0)] (by kernel_rfl) rfl (by kernel_rfl) (fun f wE hB hf => ?_)
   simp only [FinF, List.getD_cons_zero, List.getD_cons_succ] at hf
   obtain ⟨⟨_, e31, rfl⟩, ⟨_, e32, rfl⟩, ⟨_, e33, rfl⟩, ⟨_, e34, rfl⟩, ⟨_, e35, rfl⟩, ⟨_, e36, rfl⟩, ⟨_, e2, rfl⟩, ⟨_, e3, rfl⟩, _⟩ := hf
   simp only [regT, List.foldl_cons, List.foldl_nil, List.setIfInBounds_toArray, List.set_cons_zero, List.set_cons_succ, e31, e32, e33, e34, e35, e36, e2, e3]
   clear e31 e32 e33 e34 e35 e36 e2 e3
   have hDE : wE.heap[D]? = some (.deferred (some [])) := (hB.block D (Array.getElem?_eq_some_iff.1 HKD.out).1).trans HKD.out
   have BE := Lib.hid (B9.out.trans (hB.mono B9.out.size))
   have HDE := Lib.hid hDE
   have HBE := Lib.hid hB
   clear hB hDE
   go_wp2_with fail
   try rw [Exit.noGoto_ret]
   show LeavesInM _ _ _ _ _ _ (marks [D]) _ _
   refine leaves_marks [D] _ (by simp) (fun p hp => ?_) ?_
   · obtain rfl : p = (D, .deferred (some [])) := by simpa [markF] using hp
     exact HDE.out
   · intro W' e1 e2 e3 e4 e5
     have bW : Below w.heap.size w W' := ⟨e1.trans BE.out.os, e2.trans BE.out.tape, e3.trans BE.out.output, by rw [e4]; exact BE.out.size, fun k hk => (e5 k (by simp; omega)).trans (BE.out.block k hk)⟩
     refine ⟨.tuple #[.slice a6 n cp6, .bool true], by simp [results, Try.results112, go_sem], _, _, rfl, bW, .inl ⟨rfl, G9.out, ?_⟩⟩
     rw [sz_items, HN.out]
     have r1 := own_later R9.out HBE.out (Nat.le_refl _)
     refine own_mono (own_grown (row := some D) r1 ⟨e1, e2, e3, Nat.le_of_eq e4.symm, fun k _ hne => e5 k (by simp; exact fun e => hne (by rw [e]))⟩ (fun k hk e => ?_)) (by omega)
     obtain rfl : D = k := Option.some.inj e
     rcases r1.2 with ⟨h9, _⟩ | ⟨g, cap, cur, h9, _, hgb, _⟩
     · rw [h9] at hk; simp [Value.ownBlock] at hk
     · rw [h9] at hk
       obtain rfl : g = D := by simpa [Value.ownBlock] using hk
       rw [HDE.out] at hgb
       cases hgb
 case stop =>
   rintro D c pre W1 hD hSp ⟨rfl, ⟨q, hq1, hq2⟩, h2, h4, h5⟩ hK
   obtain ⟨n, hn⟩ : ∃ n, sz tr = n := ⟨_, rfl⟩
   have HN := Lib.hid hn
   have hq3 := hSp.subset hq1
   have hn0 : n ≠ 0 := fun e => by rw [← hn, ← sz_items] at e; rw [List.eq_nil_of_length_eq_zero e] at hq3; cases hq3
   have h0n : ((0 : Int) == (n : Int)) = false := by simp; omega
   clear hn hn0
   have F9 := Lib.hid h4
   have B9 := Lib.hid h5
   have hT1 := Lib.hid (HT.out.below h5 rfl)
   have Y9 := Lib.hid h2
   have HKD := Lib.hid hK
   clear HIter r5 OWN h2 h4 h5 hK
   gi_wp2
   go_upto_region 10 with (fail)
   refine relG_start (slots := [31, 32, 33, 34, 35, 36, 2, 3]) (so := []) (by kernel_rfl) (by kernel_rfl) (by rfl) ?_
   refine relG_pure (i := 0) (o := ⟨some 31, _, _, _, _, _⟩) (v := ?v8) [] [4] rfl rfl (by kernel_rfl) (by kernel_rfl) (fun t w1 hB hf hbf => ?y8) ?n8
   case y8 =>
     simp only [BasF] at hbf
     clear hf
     obtain ⟨⟨b4, k4⟩, _⟩ := hbf
     have k1 := cell_of_one (boxStays Y9.out hB)
     have k0 := cell_of_one (F9.out.below hB _ HH.out.1)
     refine Or.inl ⟨wanted_none rfl, ?_⟩
     rintro _ rfl
     go_simp <;> with_reducible rfl
   refine relG_pure (i := 1) (o := ⟨some 32, _, _, _, _, _⟩) (v := ?v9) [] [4] rfl rfl (by kernel_rfl) (by kernel_rfl) (fun t w1 hB hf hbf => ?y9) ?n9
   case y9 =>
     simp only [BasF] at hbf
     clear hf
     obtain ⟨⟨b4, k4⟩, _⟩ := hbf
     have k1 := cell_of_one (boxStays Y9.out hB)
     have k0 := cell_of_one (F9.out.below hB _ HH.out.1)
     refine Or.inl ⟨wanted_none rfl, ?_⟩
     rintro _ rfl
     go_simp <;> with_reducible rfl
   refine relG_pure (i := 2) (o := ⟨some 33, _, _, _, _, _⟩) (v := ?v10) [(1, 32, 0)] [] rfl rfl (by kernel_rfl) (by kernel_rfl) (fun t w1 hB hf hbf => ?y10) ?n10
   case y10 =>
     simp only [DepF, List.getD_cons_zero] at hf
     obtain ⟨⟨_, ⟨e32, i32⟩, rfl⟩, _⟩ := hf
     clear hbf
     have k1 := cell_of_one (boxStays Y9.out hB)
     have k0 := cell_of_one (F9.out.below hB _ HH.out.1)
     refine Or.inl ⟨wanted_none rfl, ?_⟩
     rintro _ rfl
     go_simp <;> with_reducible rfl
   refine relG_pure (i := 3) (o := ⟨some 34, _, _, _, _, _⟩) (v := ?v11) [] [1] rfl rfl (by kernel_rfl) (by kernel_rfl) (fun t w1 hB hf hbf => ?y11) ?n11
   case y11 =>
     simp only [BasF] at hbf
     clear hf
     obtain ⟨⟨b1, k1⟩, _⟩ := hbf
     have k1 := cell_of_one (boxStays Y9.out hB)
     have k0 := cell_of_one (F9.out.below hB _ HH.out.1)
     refine Or.inl ⟨wanted_none rfl, ?_⟩
     rintro _ rfl
     go_simp <;> with_reducible rfl
   refine relG_call (i := 4) (o := ⟨some 35, _, _, _, _, _⟩) ((fun v _ => v = .int .i64 (n : Int))) [(3, 34, 0)] [] rfl rfl (by kernel_rfl) (by kernel_rfl) ((fun _ _ _ h _ => h)) ?_ ?_
   · intro t w1 hB hf hbf K hK
     simp only [DepF, List.getD_cons_zero] at hf
     obtain ⟨⟨_, ⟨e34, i34⟩, rfl⟩, _⟩ := hf
     clear hbf
     have k1 := cell_of_one (boxStays Y9.out hB)
     have k0 := cell_of_one (F9.out.below hB _ HH.out.1)
     refine ⟨wanted_none rfl, ?_⟩
     go_simp
     refine (HN.out ▸ pm_MLenS tr w1 (hT1.out.below hB rfl)).mono ?_
     rintro e w2 ⟨rfl, hb⟩
     exact hK.out _ w2 (rfl) hb
   refine relG_pure (i := 5) (o := ⟨some 36, _, _, _, _, _⟩) (v := ?v12) [(2, 33, 2), (4, 35, 0)] [] rfl rfl (by kernel_rfl) (by kernel_rfl) (fun t w1 hB hf hbf => ?y12) ?n12
   case y12 =>
     simp only [DepF, List.getD_cons_zero, List.getD_cons_succ] at hf
     obtain ⟨⟨_, ⟨e33, i33⟩, rfl⟩, ⟨_, ⟨e35, i35⟩, rfl⟩, _⟩ := hf
     clear hbf
     have k1 := cell_of_one (boxStays Y9.out hB)
     have k0 := cell_of_one (F9.out.below hB _ HH.out.1)
     refine Or.inl ⟨wanted_none rfl, ?_⟩
     rintro _ rfl
     go_simp <;> with_reducible rfl
   refine relG_pure (i := 6) (o := ⟨some 2, _, _, _, _, _⟩) (v := ?v13) [(0, 31, 5)] [] rfl rfl (by kernel_rfl) (by kernel_rfl) (fun t w1 hB hf hbf => ?y13) ?n13
   case y13 =>
     simp only [DepF, List.getD_cons_zero, List.getD_cons_succ] at hf
     obtain ⟨⟨_, ⟨e31, i31⟩, rfl⟩, _⟩ := hf
     clear hbf
     have k1 := cell_of_one (boxStays Y9.out hB)
     have k0 := cell_of_one (F9.out.below hB _ HH.out.1)
     refine Or.inl ⟨wanted_none rfl, ?_⟩
     rintro _ rfl
     go_simp <;> with_reducible rfl
   refine relG_pure (i := 7) (o := ⟨some 3, _, _, _, _, _⟩) (v := ?v14) [(5, 36, 1)] [] rfl rfl (by kernel_rfl) (by kernel_rfl) (fun t w1 hB hf hbf => ?y14) ?n14
   case y14 =>
     simp only [DepF, List.getD_cons_zero, List.getD_cons_succ] at hf
     obtain ⟨⟨_, ⟨e36, i36⟩, rfl⟩, _⟩ := hf
     clear hbf
     have k1 := cell_of_one (boxStays Y9.out hB)
     have k0 := cell_of_one (F9.out.below hB _ HH.out.1)
     refine Or.inl ⟨wanted_none rfl, ?_⟩
     rintro _ rfl
     go_simp <;> with_reducible rfl
   refine relG_done [(0, 31, 7), (1, 32, 6), (2, 33, 5), (3, 34, 4), (4, 35, 3), (5, 36, 2), (6, 2, 1), (7, 3, 0)] (by kernel_rfl) rfl (by kernel_rfl) (fun f wE hB hf => ?_)
   simp only [FinF, List.getD_cons_zero, List.getD_cons_succ] at hf
   obtain ⟨⟨_, e31, rfl⟩, ⟨_, e32, rfl⟩, ⟨_, e33, rfl⟩, ⟨_, e34, rfl⟩, ⟨_, e35, rfl⟩, ⟨_, e36, rfl⟩, ⟨_, e2, rfl⟩, ⟨_, e3, rfl⟩, _⟩ := hf
   simp only [regT, List.foldl_cons, List.foldl_nil, List.setIfInBounds_toArray, List.set_cons_zero, List.set_cons_succ, e31, e32, e33, e34, e35, e36, e2, e3]
   clear e31 e32 e33 e34 e35 e36 e2 e3
   have hDE : wE.heap[D]? = some (.deferred (some [])) := (hB.block D (Array.getElem?_eq_some_iff.1 HKD.out).1).trans HKD.out
   have BE := Lib.hid (B9.out.trans (hB.mono B9.out.size))
   have HDE := Lib.hid hDE
   have HBE := Lib.hid hB
   clear hB hDE
   go_wp2_with fail
   try rw [Exit.noGoto_ret]
   show LeavesInM _ _ _ _ _ _ (marks [D]) _ _
   refine leaves_marks [D] _ (by simp) (fun p hp => ?_) ?_
   · obtain rfl : p = (D, .deferred (some [])) := by simpa [markF] using hp
     exact HDE.out
   · intro W' e1 e2 e3 e4 e5
     have bW : Below w.heap.size w W' := ⟨e1.trans BE.out.os, e2.trans BE.out.tape, e3.trans BE.out.output, by rw [e4]; exact BE.out.size, fun k hk => (e5 k (by simp; omega)).trans (BE.out.block k hk)⟩
     exact ⟨.tuple #[.slice none 0 0, .bool false], by simp [results, Try.results112, go_sem], _, _, rfl, bW, .inr ⟨rfl, rfl, q, hq3, hq2⟩⟩
end Go.Proofs.Ytnpiepimajippaa
namespace Go.Proofs.Ytnpiepimajippaa
open Go.RowKit St Pm
theorem own_b14 (tr : Tr ByteArray) (w : World) (h : AtS w tr) (hz : sz tr ≤ 100000) (hk : ∀ p ∈ items tr, p.1.size ≤ 9223372036854775807) :
   Calls Try.prog 112 #[.agg #[.pointer (pa tr)]] w fun e w' =>
     ∃ v, e = .returned (.tuple #[v, .bool ((items tr).all goodP)]) ∧ Below w.heap.size w w' ∧ ((items tr).all goodP = true → w'.ownsRow w.heap.size 47 6 v (items tr).length (elsV ((items tr).map decV))) ∧ ((items tr).all goodP = false → v = .slice none 0 0) := by
 refine (own_14 tr w h hz hk).mono ?_
 rintro e w' ⟨v, b, rfl, hb, ⟨rfl, h1, h2⟩ | ⟨rfl, rfl, q, hq, hg⟩⟩
 · have h3 : (items tr).all goodP = true := List.all_eq_true.2 h1
   rw [h3]
   exact ⟨v, rfl, hb, fun _ => h2, fun e => by cases e⟩
 · have h3 : (items tr).all goodP = false := List.all_eq_false.2 ⟨q, hq, by rw [hg]; simp⟩
   rw [h3]
   exact ⟨_, rfl, hb, fun e => (by cases e), fun _ => rfl⟩
theorem may_14 (tr : Tr ByteArray) (w : World) (h : AtS w tr) (hz : sz tr ≤ 100000) (hk : ∀ p ∈ items tr, p.1.size ≤ 9223372036854775807) :
   Calls Try.prog 78 #[.agg #[.pointer (pa tr)]] w fun e w' => e = .returned (.bool ((items tr).all goodP)) ∧ Below w.heap.size w w' := by
 have b1 := below_new w (.cells #[.pointer (pa tr)] 27)
 have C := Lib.hid (own_b14 tr _ (h.below b1 rfl) hz hk)
 have B1 := Lib.hid b1
 obtain ⟨g, hg⟩ : ∃ g, (items tr).all goodP = g := ⟨_, rfl⟩
 rw [hg] at C ⊢
 clear h hk b1 hg
 go_enter Try.func78, Try.ntmps78
 go_wp2_with fail
 refine C.out.mono ?_
 rintro e w2 ⟨v, rfl, hb, _⟩
 go_wp2_with fail
 go_ret
 exact ⟨rfl, B1.out.trans (hb.mono B1.out.size)⟩
theorem elements_14 (tr : Tr ByteArray) (w : World) (h : AtS w tr) (hz : sz tr ≤ 100000) (hk : ∀ p ∈ items tr, p.1.size ≤ 9223372036854775807) :
   Calls Try.prog 75 #[.agg #[.pointer (pa tr)]] w fun e w' =>
     ∃ v c, e = .returned (.tuple #[v, .int .i64 c]) ∧ Below w.heap.size w w' ∧ ((items tr).all goodP = true → c = 0 ∧ w'.ownsRow w.heap.size 47 6 v (items tr).length (elsV ((items tr).map decV))) ∧ ((items tr).all goodP = false → c = 2 ∧ v = .slice none 0 0) := by
 have b1 := below_new w (.cells #[.pointer (pa tr)] 27)
 have C := Lib.hid (own_b14 tr _ (h.below b1 rfl) hz hk)
 have B1 := Lib.hid b1
 obtain ⟨g, hg⟩ : ∃ g, (items tr).all goodP = g := ⟨_, rfl⟩
 rw [hg] at C ⊢
 clear h hk b1 hg
 go_enter Try.func75, Try.ntmps75
 go_wp2_with fail
 refine C.out.mono ?_
 rintro e w2 ⟨v, rfl, hb, h1, h2⟩
 have HB := Lib.hid (B1.out.trans (hb.mono B1.out.size))
 have hsz := B1.out.size
 cases g
 case true =>
   have R := Lib.hid (own_mono (h1 rfl) hsz)
   clear h1 h2 hb hsz
   go_wp2_with fail
   go_ret2
   exact ⟨_, _, rfl, HB.out, rfl, R.out⟩
 case false =>
   obtain rfl := h2 rfl
   clear h1 h2 hb hsz
   go_wp2_with fail
   go_ret2
   exact ⟨_, _, rfl, HB.out, rfl, rfl⟩
end Go.Proofs.Ytnpiepimajippaa
namespace Go.Proofs.Ytnpiepimajippaa
open Go.RowKit St Pm
def zeroE : Ev := (⟨0, 0, ⟨#[]⟩, 0, 0⟩, ⟨#[]⟩)
theorem el_one (e : Ev) : (#[.int .i64 e.1.g, .int .i64 e.1.r, .string e.1.l, .int .i64 e.1.n, .int .i64 e.1.i, .string e.2] : Array Value).all (·.oneCell') = true := by simp [Value.oneCell']
end Go.Proofs.Ytnpiepimajippaa
namespace Go.Proofs.Ytnpiepimajippaa
open Go.RowKit St Pm
def encV (e : Ev) : ByteArray × ByteArray := (keyB e.1.st, e.2)
theorem encV_toV {x : El} (h : okE x = true) : encV (toV x) = enc x := by
 obtain ⟨h1, _⟩ := okE_iff.1 h
 unfold encV toV enc
 rw [(Stp.ok_sv h1).2]
theorem enc_toE {x : Ev} : enc (toE x) = encV x := rfl
structure Reg (l : List Ev) (t : Tr ByteArray) : Prop where
 bal : Bal t
 it : items t = l.map encV
 ok : ∀ x ∈ l, okV x = true
 srt : Srt (items t)
theorem Reg.len {l : List Ev} {t : Tr ByteArray} (h : Reg l t) : sz t = l.length := by rw [← sz_items, h.it, List.length_map]
theorem good_enc {x : Ev} (h : okV x = true) : goodP (encV x) = true ∧ decV (encV x) = x := by
 obtain ⟨h1, h2⟩ := okV_toE h
 have h3 := decV_enc (es := [toE x]) (fun y hy => by rw [List.mem_singleton.1 hy]; exact h1)
 refine ⟨h3.1 _ (by rw [List.map_cons, List.map_nil, enc_toE]; exact List.mem_cons_self), ?_⟩
 have h4 := h3.2
 simp only [List.map_cons, List.map_nil, enc_toE, h2, List.cons.injEq, and_true] at h4
 exact h4
theorem Reg.good {l : List Ev} {t : Tr ByteArray} (h : Reg l t) : (items t).all goodP = true := by
 rw [h.it, List.all_eq_true]
 intro p hp
 obtain ⟨x, hx, rfl⟩ := List.mem_map.1 hp
 exact (good_enc (h.ok x hx)).1
theorem Reg.dec {l : List Ev} {t : Tr ByteArray} (h : Reg l t) : (items t).map decV = l := by
 rw [h.it, List.map_map]
 conv => rhs; rw [← List.map_id l]
 exact List.map_congr_left fun x hx => (good_enc (h.ok x hx)).2
theorem Reg.texts {l : List Ev} {t : Tr ByteArray} (h : Reg l t) : (items t).map (·.2) = l.map (·.2) := by
 rw [h.it, List.map_map]; rfl
theorem ok_lab {s : Sv} (h : s.ok = true) : s.l.size ≤ 12 := by
 have h5 := (Sv.ok_iff.1 h).2.2.2.2.1
 unfold okLabel at h5
 simp only [Bool.and_eq_true, decide_eq_true_eq] at h5
 have := h5.2
 simpa using this
theorem key_size {s : Sv} (h : s.ok = true) : (keyB s.st).size ≤ 31 := by
 have h1 := key_length s.st
 have h2 : (keyB s.st).size = s.st.key.length := by unfold keyB; simp [ByteArray.size]
 have h3 := ok_lab h
 have h4 : s.st.label.length = s.l.size := by unfold Sv.st; simp
 omega
theorem Reg.keys {l : List Ev} {t : Tr ByteArray} (h : Reg l t) : ∀ p ∈ items t, p.1.size ≤ 9223372036854775807 := by
 rw [h.it]
 intro p hp
 obtain ⟨x, hx, rfl⟩ := List.mem_map.1 hp
 have := key_size (okV_iff.1 (h.ok x hx)).1
 show (keyB x.1.st).size ≤ _
 omega
theorem reg_put {L : List Ev} {t : Tr ByteArray} (hm : mayV L = true) (hb : Bal t) (hi : items t = putF L) : Reg (sortV L) t := by
 have ho := (mayV_iff.1 hm).1
 have hE := okE_map ho
 refine ⟨hb, ?_, fun x hx => ho x (sortV_mem.1 hx), by rw [hi]; exact putF_srt hm⟩
 rw [hi, ← putF_sort hm, sortV_V ho, List.map_map]
 refine List.map_congr_left fun x hx => ?_
 exact (encV_toV (hE x (sortE_mem.1 hx))).symm
def aheadK (tr : Tr ByteArray) (k : ByteArray) : Bool := !(isNS (endR tr)) || klt (keyOr (endR tr)) k
theorem Reg.ahead {l : List Ev} {t : Tr ByteArray} (h : Reg l t) {s : Sv} (hs : s.ok = true) : aheadK t (keyB s.st) = behindV l s := by
 unfold aheadK behindV
 cases t with
 | nil =>
   have : l = [] := by have := h.len; exact List.length_eq_zero_iff.1 this.symm
   subst this
   rfl
 | node b tl k v tr =>
   obtain ⟨b', l', k', v', r', e1, e2⟩ := endR_items (.node b tl k v tr : Tr ByteArray) (by intro e; cases e)
   rw [e1]
   rw [h.it, h.len, List.getElem?_map] at e2
   rw [← List.getLast?_eq_getElem?] at e2
   cases hl : l.getLast? with
   | none => rw [hl] at e2; cases e2
   | some x =>
     rw [hl] at e2
     simp only [Option.map_some, Option.some.injEq] at e2
     have hx := h.ok x (List.mem_of_getLast? hl)
     have ek : k' = keyB x.1.st := by have := congrArg Prod.fst e2; exact this.symm
     show (!true || klt k' (keyB s.st)) = _
     rw [ek, keyB_klt (Sv.ok_st (okV_iff.1 hx).1).1 (Sv.ok_st hs).1, ← svC_lt (okV_iff.1 hx).1 hs]
     rfl
theorem ins_snoc {k v : ByteArray} : ∀ {l : List (ByteArray × ByteArray)}, (∀ p ∈ l, klt p.1 k = true) → ins k v l = l ++ [(k, v)]
 | [], _ => rfl
 | (k0, v0) :: l, h => by
   have h0 := h _ List.mem_cons_self
   have ih := ins_snoc (k := k) (v := v) (l := l) fun p hp => h p (List.mem_cons_of_mem _ hp)
   unfold ins
   rw [if_neg (by rw [klt_asymm h0]; simp), if_pos h0, ih]
   rfl
theorem Reg.lt_last {l : List Ev} {t : Tr ByteArray} (h : Reg l t) {s : Sv} (hs : s.ok = true) (hb : behindV l s = true) : ∀ p ∈ items t, klt p.1 (keyB s.st) = true := by
 intro p hp
 have hsr := h.srt
 rw [h.it] at hp hsr
 obtain ⟨x, hx, rfl⟩ := List.mem_map.1 hp
 unfold behindV at hb
 rcases List.eq_nil_or_concat l with rfl | ⟨l0, y, rfl⟩
 · cases hx
 · rw [List.concat_eq_append] at hx hb hsr h
   rw [List.getLast?_append] at hb
   simp only [List.getLast?_singleton, Option.some_or] at hb
   have hy := (okV_iff.1 (h.ok y (by simp))).1
   have hb2 : klt (keyB y.1.st) (keyB s.st) = true := by rw [keyB_klt (Sv.ok_st hy).1 (Sv.ok_st hs).1, ← svC_lt hy hs]; exact hb
   rcases List.mem_append.1 hx with hx | hx
   · rw [List.map_append, srt_append] at hsr
     exact klt_trans (hsr.2.2 _ (List.mem_map.2 ⟨x, hx, rfl⟩) _ (List.mem_map.2 ⟨y, List.mem_singleton.2 rfl, rfl⟩)) hb2
   · rw [List.mem_singleton.1 hx]; exact hb2
theorem reg_snoc {l : List Ev} {t t' : Tr ByteArray} {s : Sv} {x : ByteArray} (h : Reg l t) (hs : s.ok = true) (hx : x.size ≤ 256) (hb : behindV l s = true) (hB : Bal t') (hi : items t' = ins (keyB s.st) x (items t)) : Reg (l ++ [(s, x)]) t' := by
 have hl := h.lt_last hs hb
 refine ⟨hB, ?_, fun y hy => ?_, by rw [hi]; exact ins_srt h.srt⟩
 · rw [hi, ins_snoc hl, h.it, List.map_append]; rfl
 · rcases List.mem_append.1 hy with hy | hy
   · exact h.ok y hy
   · rw [List.mem_singleton.1 hy]; exact okV_iff.2 ⟨hs, hx⟩
end Go.Proofs.Ytnpiepimajippaa
namespace Go.Proofs.Ytnpiepimajippaa
open Go.RowKit St Pm
def encEls (x : Ev) : Array Value := #[.agg #[.int .i64 x.1.g, .int .i64 x.1.r, .string x.1.l, .int .i64 x.1.n, .int .i64 x.1.i], .string x.2]
def GoesOver (n gf : Nat) (lb : Array Value) (S : Nat → Prop) (L : List Ev) (w : World) : Prop :=
 Iter2 n Try.prog gf lb encEls (KeepE (w.heap.size + 2) S (fun _ => False)) (fun pre x _ => pre ++ [x] <+: L) (fun _ xs W2 W' => xs = L ∧ Below (w.heap.size + 2) W2 W') (fun pre => pre <+: L) w
theorem KeepE.own {M base size n : Nat} {S : Nat → Prop} {e : TypeId} {v : Value} {xs : List Value} {A B : World} (h : KeepE M S (fun _ => False) A B) (ho : A.ownsRow base e size v n xs) (hM : M ≤ base) : B.ownsRow base e size v n xs := by
 refine ⟨ho.1, ?_⟩
 rcases ho.2 with h1 | ⟨g, cap, cur, hv, hb, hg, h3⟩
 · exact .inl h1
 · exact .inr ⟨g, cap, cur, hv, hb, h.rest g _ (by omega) hg (fun _ _ _ _ h => h), h3⟩
def shown (t : Tr ByteArray) : List Ev := if (items t).all goodP = true then (items t).map decV else []
theorem Reg.shown {l : List Ev} {t : Tr ByteArray} (h : Reg l t) : shown t = l := by unfold Go.Proofs.Ytnpiepimajippaa.shown; rw [if_pos h.good, h.dec]
theorem heap_kept {A A' : World} {row : Option Nat} (hg : A.grownBy A' row) (hr : ∀ r, row = some r → ∃ o : Obj, A.heap[r]? = some o ∧ o.isCells = false) {g : Nat} {c : Array Value} {t : TypeId} {fr : Nat × Nat} (h : A.heap[g]? = some (.cells c t fr)) : A'.heap[g]? = some (.cells c t fr) := by
 refine (hg.block g (Array.getElem?_eq_some_iff.1 h).1 fun e => ?_).trans h
 obtain ⟨o, ho, hc⟩ := hr g e.symm
 rw [h] at ho; cases ho; cases hc
theorem keepsFrom_below {A B : World} (hb : Below A.heap.size A B) (D : Nat) : KeepsFrom D A B := ⟨hb.size, fun k o _ ho _ => boxStays ho hb⟩
end Go.Proofs.Ytnpiepimajippaa
namespace Go.Proofs.Ytnpiepimajippaa
open Go.RowKit St Pm
def atE (L : List Ev) (i : Int) : Ev × Bool := if 0 ≤ i then (match L[i.toNat]? with | some x => (x, true) | none => (zeroE, false)) else (zeroE, false)
theorem at_cases (tr : Tr ByteArray) (i : Int) : (isNS (atOS tr i) = false ∧ atE (shown tr) i = (zeroE, false)) ∨
   ∃ k v, keyOr (atOS tr i) = k ∧ valOr (atOS tr i) = v ∧ isNS (atOS tr i) = true ∧ (k, v) ∈ items tr ∧ (((items tr).all goodP = false ∧ atE (shown tr) i = (zeroE, false)) ∨ ((items tr).all goodP = true ∧ ∃ s, ofK k = some s ∧ atE (shown tr) i = ((s, v), true))) := by
 by_cases h0 : i < 0
 · left
   unfold atOS atE
   rw [if_pos h0, if_neg (by omega)]
   exact ⟨rfl, rfl⟩
 · have hi : ((i.toNat : Nat) : Int) = i := by omega
   by_cases hs : i.toNat < sz tr
   · right
     obtain ⟨b, l, k, v, r, e, h⟩ := atI_items tr i.toNat hs
     rw [hi] at e
     have e2 : atOS tr i = .node b l k v r := by unfold atOS; rw [if_neg h0]; exact e
     refine ⟨k, v, by rw [e2]; rfl, by rw [e2]; rfl, by rw [e2]; rfl, List.mem_of_getElem? h, ?_⟩
     cases hg : (items tr).all goodP with
     | false =>
       left
       refine ⟨rfl, ?_⟩
       unfold atE shown
       rw [if_pos (by omega), hg, if_neg (by simp)]
       rfl
     | true =>
       right
       have hp : goodP (k, v) = true := List.all_eq_true.1 hg _ (List.mem_of_getElem? h)
       unfold goodP at hp
       simp only [Bool.and_eq_true] at hp
       obtain ⟨s, hs'⟩ := Option.isSome_iff_exists.1 hp.1
       refine ⟨rfl, s, hs', ?_⟩
       unfold atE shown
       rw [if_pos (by omega), hg, if_pos rfl, List.getElem?_map, h]
       show ((decV (k, v), true) : Ev × Bool) = _
       unfold decV
       rw [show (k, v).1 = k from rfl, hs']
       rfl
   · left
     have e2 : atOS tr i = .nil := by
       unfold atOS
       rw [if_neg h0]
       exact atI_big tr i (by omega)
     refine ⟨by rw [e2]; rfl, ?_⟩
     have hn : (shown tr)[i.toNat]? = none := by
       rw [List.getElem?_eq_none_iff]
       unfold shown
       split
       · rw [List.length_map, sz_items]; omega
       · simp
     unfold atE
     rw [if_pos (by omega), hn]
set_option maxRecDepth 100000 in
set_option maxHeartbeats 4000000 in
theorem jo_At (tr : Tr ByteArray) (i : Int) (w : World) (h : AtS w tr) (hz : sz tr ≤ 100000) (hk : ∀ p ∈ items tr, p.1.size ≤ 9223372036854775807) (hi : i ≤ 9223372036854775807) (hi0 : -9223372036854775808 ≤ i) :
   Calls Try.prog 81 #[.agg #[.pointer (pa tr)], .int .i64 i] w fun e w' => ∃ x : Ev, e = .returned (.tuple #[.agg #[.int .i64 x.1.g, .int .i64 x.1.r, .string x.1.l, .int .i64 x.1.n, .int .i64 x.1.i, .string x.2], .bool (atE (shown tr) i).2]) ∧ x = (atE (shown tr) i).1 ∧ Below w.heap.size w w' := by
 have HA := Lib.hid (fun W (hW : Below w.heap.size w W) => pm_MAtS tr i W (h.below hW rfl) hi hi0 (by omega))
 have HY := Lib.hid (fun W (hW : Below w.heap.size w W) => may_14 tr W (h.below hW rfl) hz hk)
 have AC := Lib.hid (at_cases tr i)
 have HK := Lib.hid hk
 clear h hz hk hi hi0
 generalize hnd : atOS tr i = nd at HA AC
 generalize atE (shown tr) i = ans at *
 clear hnd
 have HC : Hid (Chain [w] w) := Lib.hid (Chain.one w)
 go_enter Try.func81, Try.ntmps81
 go_upto_region 1 with (fail)
 obtain ⟨z, hz⟩ : ∃ c, w.heap.size = c := ⟨_, rfl⟩
 try rw [hz]
 obtain ⟨w1, hw1⟩ : ∃ X, allocs w [.cells #[.pointer (pa tr)] 27, .cells #[.int .i64 0, .int .i64 0, .string ⟨#[]⟩, .int .i64 0, .int .i64 0, .string ⟨#[]⟩] 47] = X := ⟨_, rfl⟩
 rw [show (w.alloc (.cells #[.pointer (pa tr)] 27)).alloc (.cells #[.int .i64 0, .int .i64 0, .string ⟨#[]⟩, .int .i64 0, .int .i64 0, .string ⟨#[]⟩] 47) = w1 from hw1]
 have hb : Below w.heap.size w w1 := by rw [← hw1]; exact allocs_below _ _
 have HM : Hid (w1.heap[z]? = some (.cells #[.pointer (pa tr)] 27 (0, 0))) := Lib.hid (by have := allocs_get [.cells #[.pointer (pa tr)] 27, .cells #[.int .i64 0, .int .i64 0, .string ⟨#[]⟩, .int .i64 0, .int .i64 0, .string ⟨#[]⟩] 47] w 0 _ rfl; rw [hw1, hz] at this; exact this)
 have HR : Hid (w1.heap[z + 1]? = some (.cells #[.int .i64 0, .int .i64 0, .string ⟨#[]⟩, .int .i64 0, .int .i64 0, .string ⟨#[]⟩] 47 (0, 0))) := Lib.hid (by have := allocs_get [.cells #[.pointer (pa tr)] 27, .cells #[.int .i64 0, .int .i64 0, .string ⟨#[]⟩, .int .i64 0, .int .i64 0, .string ⟨#[]⟩] 47] w 1 _ rfl; rw [hw1, hz] at this; exact this)
 have Sz : Hid (w.heap.size = z) := Lib.hid hz
 replace HC := Lib.hid (HC.out.push hb)
 clear hb hw1 hz
 have BZ : Hid (∀ W, Below z w1 W → Below w.heap.size w W) := Lib.hid (fun W hW => by
   have h1 : Below z w w1 := by rw [← Sz.out]; exact (HC.out.to w (by simp))
   rw [Sz.out]; exact h1.trans hW)
 have kM0 := cell_of_one HM.out
 go_wp2_with fail
 refine (HA.out _ (HC.out.to w (by simp))).mono ?_
 rintro e w2 ⟨rfl, hb⟩
 clear kM0
 replace HC := Lib.hid (HC.out.push hb)
 clear hb
 rcases AC.out with ⟨hn, ha⟩ | ⟨k, v, h1, h2, h3, h4, h5⟩
 · have EA := Lib.hid ha
   rw [hn]
   clear hn ha AC
   go_upto_region 3 with (fail)
   have XR := Lib.hid (boxStays HR.out (HC.out.to w1 (by simp)))
   have BW := Lib.hid (HC.out.to w1 (by simp))
   go_wp2_with (refine wpList_store_row rfl 47 (.tmp 4) (.tmp 25) rfl (z + 1) #[.int .i64 0, .int .i64 0, .string ⟨#[]⟩, .int .i64 0, .int .i64 0, .string ⟨#[]⟩] rfl rfl 47 _ XR.out (by kernel_rfl) rfl (el_one zeroE) ?_)
   have YR := setRow_heap w2 (z + 1) _ #[.int .i64 0, .int .i64 0, .string ⟨#[]⟩, .int .i64 0, .int .i64 0, .string ⟨#[]⟩] _ _ XR.out
   have YB := below_setRow (B := z) (BW.out.mono (by have := (Array.getElem?_eq_some_iff.1 HM.out).1; omega)) (show z ≤ z + 1 by omega) #[.int .i64 0, .int .i64 0, .string ⟨#[]⟩, .int .i64 0, .int .i64 0, .string ⟨#[]⟩]
   generalize w2.setRow (z + 1) #[.int .i64 0, .int .i64 0, .string ⟨#[]⟩, .int .i64 0, .int .i64 0, .string ⟨#[]⟩] = wF at *
   have q0 := cell_of_row _ _ 0 _ _ _ YR
   have q1 := cell_of_row _ _ 1 _ _ _ YR
   have q2 := cell_of_row _ _ 2 _ _ _ YR
   have q3 := cell_of_row _ _ 3 _ _ _ YR
   have q4 := cell_of_row _ _ 4 _ _ _ YR
   have q5 := cell_of_row _ _ 5 _ _ _ YR
   refine bodyPost_ret (v := .tuple #[.agg #[.int .i64 0, .int .i64 0, .string ⟨#[]⟩, .int .i64 0, .int .i64 0, .string ⟨#[]⟩], .bool false]) (by simp [results, Try.results81, go_sem, q0, q1, q2, q3, q4, q5]) rfl ?_
   exact ⟨zeroE, by rw [EA.out]; rfl, by rw [EA.out], BZ.out _ YB⟩
 ·
   have HKS : Hid (k.size ≤ 9223372036854775807) := Lib.hid (HK.out _ h4)
   rw [h1, h2, h3]
   have H5 := Lib.hid h5
   clear h1 h2 h3 h4 h5 AC
   have kM0 := cell_of_one (boxStays HM.out (HC.out.to w1 (by simp)))
   go_wp2_with fail
   refine (HY.out _ (HC.out.to w (by simp))).mono ?_
   rintro e w3 ⟨rfl, hb⟩
   clear kM0
   replace HC := Lib.hid (HC.out.push hb)
   clear hb
   rcases H5.out with ⟨hg, ha⟩ | ⟨hg, s, hs, ha⟩
   · have EA := Lib.hid ha
     rw [hg]
     clear hg ha H5
     go_upto_region 3 with (fail)
     have XR := Lib.hid (boxStays HR.out (HC.out.to w1 (by simp)))
     have BW := Lib.hid (HC.out.to w1 (by simp))
     go_wp2_with (refine wpList_store_row rfl 47 (.tmp 4) (.tmp 25) rfl (z + 1) #[.int .i64 0, .int .i64 0, .string ⟨#[]⟩, .int .i64 0, .int .i64 0, .string ⟨#[]⟩] rfl rfl 47 _ XR.out (by kernel_rfl) rfl (el_one zeroE) ?_)
     have YR := setRow_heap w3 (z + 1) _ #[.int .i64 0, .int .i64 0, .string ⟨#[]⟩, .int .i64 0, .int .i64 0, .string ⟨#[]⟩] _ _ XR.out
     have YB := below_setRow (B := z) (BW.out.mono (by have := (Array.getElem?_eq_some_iff.1 HM.out).1; omega)) (show z ≤ z + 1 by omega) #[.int .i64 0, .int .i64 0, .string ⟨#[]⟩, .int .i64 0, .int .i64 0, .string ⟨#[]⟩]
     generalize w3.setRow (z + 1) #[.int .i64 0, .int .i64 0, .string ⟨#[]⟩, .int .i64 0, .int .i64 0, .string ⟨#[]⟩] = wF at *
     have q0 := cell_of_row _ _ 0 _ _ _ YR
     have q1 := cell_of_row _ _ 1 _ _ _ YR
     have q2 := cell_of_row _ _ 2 _ _ _ YR
     have q3 := cell_of_row _ _ 3 _ _ _ YR
     have q4 := cell_of_row _ _ 4 _ _ _ YR
     have q5 := cell_of_row _ _ 5 _ _ _ YR
     refine bodyPost_ret (v := .tuple #[.agg #[.int .i64 0, .int .i64 0, .string ⟨#[]⟩, .int .i64 0, .int .i64 0, .string ⟨#[]⟩], .bool false]) (by simp [results, Try.results81, go_sem, q0, q1, q2, q3, q4, q5]) rfl ?_
     exact ⟨zeroE, by rw [EA.out]; rfl, by rw [EA.out], BZ.out _ YB⟩
   ·
     have EA := Lib.hid ha
     have OK := Lib.hid (fun W => stp_OfKey k W HKS.out)
     rw [hs] at OK
     rw [hg]
     clear hg ha H5 hs
     go_upto_region 4 with (fail)
     go_wp2_with fail
     refine (OK.out _).mono ?_
     rintro e w4 ⟨rfl, hb⟩
     replace HC := Lib.hid (HC.out.push hb)
     clear hb
     simp only [stO, stA]
     go_upto_region 5 with (fail)
     obtain ⟨c5, hc5⟩ : ∃ c, w4.heap.size = c := ⟨_, rfl⟩
     try rw [hc5]
     obtain ⟨w5, hw5⟩ : ∃ X, allocs w4 [.cells #[.int .i64 s.g, .int .i64 s.r, .string s.l, .int .i64 s.n, .int .i64 s.i] 41] = X := ⟨_, rfl⟩
     rw [show w4.alloc (.cells #[.int .i64 s.g, .int .i64 s.r, .string s.l, .int .i64 s.n, .int .i64 s.i] 41) = w5 from hw5]
     have hb : Below w4.heap.size w4 w5 := by rw [← hw5]; exact allocs_below _ _
     have HS : Hid (w5.heap[c5]? = some (.cells #[.int .i64 s.g, .int .i64 s.r, .string s.l, .int .i64 s.n, .int .i64 s.i] 41 (0, 0))) := Lib.hid (by have := allocs_get [.cells #[.int .i64 s.g, .int .i64 s.r, .string s.l, .int .i64 s.n, .int .i64 s.i] 41] w4 0 _ rfl; rw [hw5, hc5] at this; exact this)
     have Sc5 : Hid (w4.heap.size = c5) := Lib.hid hc5
     replace HC := Lib.hid (HC.out.push hb)
     clear hb hw5 hc5
     have XR := Lib.hid (boxStays HR.out (HC.out.to w1 (by simp)))
     have BW := Lib.hid (HC.out.to w1 (by simp))
     have kS0 := cell_of_row _ _ 0 _ _ _ HS.out
     have kS1 := cell_of_row _ _ 1 _ _ _ HS.out
     have kS2 := cell_of_row _ _ 2 _ _ _ HS.out
     have kS3 := cell_of_row _ _ 3 _ _ _ HS.out
     have kS4 := cell_of_row _ _ 4 _ _ _ HS.out
     go_wp2_with (refine wpList_store_row rfl 47 (.tmp 4) (.tmp 33) rfl (z + 1) #[.int .i64 s.g, .int .i64 s.r, .string s.l, .int .i64 s.n, .int .i64 s.i, .string v] rfl rfl 47 _ XR.out (by kernel_rfl) rfl (el_one (s, v)) ?_)
     have YR := setRow_heap w5 (z + 1) _ #[.int .i64 s.g, .int .i64 s.r, .string s.l, .int .i64 s.n, .int .i64 s.i, .string v] _ _ XR.out
     have YB := below_setRow (B := z) (BW.out.mono (by have := (Array.getElem?_eq_some_iff.1 HM.out).1; omega)) (show z ≤ z + 1 by omega) #[.int .i64 s.g, .int .i64 s.r, .string s.l, .int .i64 s.n, .int .i64 s.i, .string v]
     generalize w5.setRow (z + 1) #[.int .i64 s.g, .int .i64 s.r, .string s.l, .int .i64 s.n, .int .i64 s.i, .string v] = wF at *
     have q0 := cell_of_row _ _ 0 _ _ _ YR
     have q1 := cell_of_row _ _ 1 _ _ _ YR
     have q2 := cell_of_row _ _ 2 _ _ _ YR
     have q3 := cell_of_row _ _ 3 _ _ _ YR
     have q4 := cell_of_row _ _ 4 _ _ _ YR
     have q5 := cell_of_row _ _ 5 _ _ _ YR
     refine bodyPost_ret (v := .tuple #[.agg #[.int .i64 s.g, .int .i64 s.r, .string s.l, .int .i64 s.n, .int .i64 s.i, .string v], .bool true]) (by simp [results, Try.results81, go_sem, q0, q1, q2, q3, q4, q5]) rfl ?_
     exact ⟨(s, v), by rw [EA.out], by rw [EA.out], BZ.out _ YB⟩
end Go.Proofs.Ytnpiepimajippaa
namespace Go.Proofs.Ytnpiepimajippaa
open Go.RowKit St Pm
attribute [local go_sem] Oper.semAt_some
def okP (b : Tr ByteArray) (p : ByteArray × ByteArray) : Bool := isNS (seek p.1 b) && decide (valOr (seek p.1 b) = p.2)
def partT (a b : Tr ByteArray) : Bool := (items a).all goodP && ((items b).all goodP && (items a).all (okP b))
def PaI (z y : Nat) (b : Tr ByteArray) (w : World) (pre : List (ByteArray × ByteArray)) (W : World) : Prop :=
 (∀ p ∈ pre, okP b p = true) ∧ W.heap[z]? = some (.cells #[.pointer (pa b)] 27 (0, 0)) ∧ W.heap[y]? = some (.cells #[.bool true] 4 (0, 0)) ∧ Below w.heap.size w W
theorem paI_own (z y : Nat) (b : Tr ByteArray) (w : World) (B : Nat) (hB : w.heap.size ≤ B) : OwnFrom B (PaI z y b w) := by
 rintro pre A A' row ⟨h1, h2, h3, h6⟩ hg hr
 have hr' : ∀ r, row = some r → ∃ o : Obj, A.heap[r]? = some o ∧ o.isCells = false := fun r e => (hr r e).2
 exact ⟨h1, heap_kept hg hr' h2, heap_kept hg hr' h3, ownFrom_below (β := Unit) (Nat.le_refl _) hB () A A' row h6 hg hr⟩
def PaX (y : Nat) (b : Tr ByteArray) (w : World) (pre : List (ByteArray × ByteArray)) (W : World) : Prop :=
 (∃ p ∈ pre, okP b p = false) ∧ W.heap[y]? = some (.cells #[.bool false] 4 (0, 0)) ∧ Below w.heap.size w W
theorem paX_own (y : Nat) (b : Tr ByteArray) (w : World) (B : Nat) (hB : w.heap.size ≤ B) : OwnFrom B (PaX y b w) := by
 rintro pre A A' row ⟨h1, h3, h6⟩ hg hr
 have hr' : ∀ r, row = some r → ∃ o : Obj, A.heap[r]? = some o ∧ o.isCells = false := fun r e => (hr r e).2
 exact ⟨h1, heap_kept hg hr' h3, ownFrom_below (β := Unit) (Nat.le_refl _) hB () A A' row h6 hg hr⟩
set_option maxRecDepth 100000 in
set_option maxHeartbeats 4000000 in
theorem jo_Part (a b : Tr ByteArray) (w : World) (ha : AtS w a) (hb : AtS w b) (hza : sz a ≤ 100000) (hzb : sz b ≤ 100000) (hka : ∀ p ∈ items a, p.1.size ≤ 9223372036854775807) (hkb : ∀ p ∈ items b, p.1.size ≤ 9223372036854775807) :
   Calls Try.prog 33 #[.agg #[.pointer (pa a)], .agg #[.pointer (pa b)]] w fun e w' => e = .returned (.bool (partT a b)) ∧ Below w.heap.size w w' := by
 have TA := Lib.hid ha
 have TB := Lib.hid hb
 have MA := Lib.hid (fun W (hW : Below w.heap.size w W) => may_14 a W (ha.below hW rfl) hza hka)
 have MB := Lib.hid (fun W (hW : Below w.heap.size w W) => may_14 b W (hb.below hW rfl) hzb hkb)
 have GA : Hid ((items a).all goodP = false → partT a b = false) := Lib.hid (fun h => by unfold partT; rw [h]; rfl)
 have GB : Hid ((items b).all goodP = false → partT a b = false) := Lib.hid (fun h => by unfold partT; rw [h]; simp)
 have GP : Hid ((items a).all goodP = true → (items b).all goodP = true → partT a b = (items a).all (okP b)) := Lib.hid (fun h1 h2 => by unfold partT; rw [h1, h2]; rfl)
 clear ha hb hza hzb hka hkb
 refine (callsIn_wide (n := 6)).1 ?_
 refine callsIn_of_wp_marks Try.func33 rfl trivial ?_ rfl
 simp only [Try.ntmps33, List.size_toArray, List.length_cons, List.length_nil, Nat.reduceAdd, Nat.reduceSub, Array.replicate_succ, Array.replicate_zero, List.push_toArray, List.append_toArray, List.nil_append, List.cons_append]
 refine wpIn_wide.2 ?_
 have HC : Hid (Chain [w] w) := Lib.hid (Chain.one w)
 go_upto_region 1 with (fail)
 obtain ⟨z, hz⟩ : ∃ c, w.heap.size = c := ⟨_, rfl⟩
 try rw [hz]
 obtain ⟨w1, hw1⟩ : ∃ X, allocs w [.cells #[.pointer (pa a)] 27, .cells #[.pointer (pa b)] 27] = X := ⟨_, rfl⟩
 rw [show (w.alloc (.cells #[.pointer (pa a)] 27)).alloc (.cells #[.pointer (pa b)] 27) = w1 from hw1]
 have hb : Below w.heap.size w w1 := by rw [← hw1]; exact allocs_below _ _
 have HA : Hid (w1.heap[z]? = some (.cells #[.pointer (pa a)] 27 (0, 0))) := Lib.hid (by have := allocs_get [.cells #[.pointer (pa a)] 27, .cells #[.pointer (pa b)] 27] w 0 _ rfl; rw [hw1, hz] at this; exact this)
 have HB : Hid (w1.heap[z + 1]? = some (.cells #[.pointer (pa b)] 27 (0, 0))) := Lib.hid (by have := allocs_get [.cells #[.pointer (pa a)] 27, .cells #[.pointer (pa b)] 27] w 1 _ rfl; rw [hw1, hz] at this; exact this)
 have Sz : Hid (w.heap.size = z) := Lib.hid hz
 replace HC := Lib.hid (HC.out.push hb)
 clear hb hw1 hz
 go_step3
 have kA0 := cell_of_one HA.out
 go_wp2_with fail
 refine (MA.out _ (HC.out.to w (by simp))).mono ?_
 rintro e w2 ⟨rfl, hb⟩
 clear kA0
 replace HC := Lib.hid (HC.out.push hb)
 clear hb
 obtain ⟨ga, hga⟩ : ∃ g, (items a).all goodP = g := ⟨_, rfl⟩
 obtain ⟨gb, hgb⟩ : ∃ g, (items b).all goodP = g := ⟨_, rfl⟩
 rw [hga] at GA GP
 rw [hgb] at MB GB GP
 rw [hga]
 clear hga hgb
 cases ga
 case false =>
   go_wp2_with fail
   try rw [Exit.noGoto_ret]
   have BW := Lib.hid (HC.out.to w (by simp))
   show LeavesInM _ _ _ _ _ _ (marks []) _ _
   refine leaves_marks [] _ (by simp) (fun p hp => by cases hp) ?_
   intro W' e1 e2 e3 e4 e5
   have bW : Below w.heap.size w W' := ⟨e1.trans BW.out.os, e2.trans BW.out.tape, e3.trans BW.out.output, by rw [e4]; exact BW.out.size, fun k hk => (e5 k (by simp)).trans (BW.out.block k hk)⟩
   exact ⟨.bool false, by simp [results, Try.results33, go_sem], by rw [GA.out (by simp)], bW⟩
 case true =>
 have kB0 := cell_of_one (boxStays HB.out (HC.out.to w1 (by simp)))
 go_wp2_with fail
 refine (MB.out _ (HC.out.to w (by simp))).mono ?_
 rintro e w3 ⟨rfl, hb⟩
 clear kB0
 replace HC := Lib.hid (HC.out.push hb)
 clear hb
 cases gb
 case false =>
   go_wp2_with fail
   try rw [Exit.noGoto_ret]
   have BW := Lib.hid (HC.out.to w (by simp))
   show LeavesInM _ _ _ _ _ _ (marks []) _ _
   refine leaves_marks [] _ (by simp) (fun p hp => by cases hp) ?_
   intro W' e1 e2 e3 e4 e5
   have bW : Below w.heap.size w W' := ⟨e1.trans BW.out.os, e2.trans BW.out.tape, e3.trans BW.out.output, by rw [e4]; exact BW.out.size, fun k hk => (e5 k (by simp)).trans (BW.out.block k hk)⟩
   exact ⟨.bool false, by simp [results, Try.results33, go_sem], by rw [GB.out (by simp)], bW⟩
 case true =>
 have G0 := Lib.hid (GP.out (by simp) (by simp))
 clear GA GB GP
 have W13 : Hid (w1.heap.size ≤ w3.heap.size) := Lib.hid (HC.out.to w1 (by simp)).size
 go_upto_region 4 with (fail)
 obtain ⟨y, hy⟩ : ∃ c, w3.heap.size = c := ⟨_, rfl⟩
 try rw [hy]
 obtain ⟨w4, hw4⟩ : ∃ X, allocs w3 [.cells #[.bool true] 4] = X := ⟨_, rfl⟩
 rw [show w3.alloc (.cells #[.bool true] 4) = w4 from hw4]
 have hb : Below w3.heap.size w3 w4 := by rw [← hw4]; exact allocs_below _ _
 have HV : Hid (w4.heap[y]? = some (.cells #[.bool true] 4 (0, 0))) := Lib.hid (by have := allocs_get [.cells #[.bool true] 4] w3 0 _ rfl; rw [hw4, hy] at this; exact this)
 have Sy : Hid (w3.heap.size = y) := Lib.hid hy
 replace HC := Lib.hid (HC.out.push hb)
 clear hb hw4 hy
 go_step3
 have Y4 : Hid (w.heap.size ≤ z ∧ z + 1 < y ∧ y < w4.heap.size) := Lib.hid (by
   have h1 := (Array.getElem?_eq_some_iff.1 HB.out).1
   have h2 := Sz.out
   have h3 := Sy.out
   have h4 := (HC.out.to w1 (by simp)).size
   have h5 := (Array.getElem?_eq_some_iff.1 HV.out).1
   have h6 := W13.out
   exact ⟨by omega, by omega, h5⟩)
 have kA0 := cell_of_one (boxStays HA.out (HC.out.to w1 (by simp)))
 go_wp2_with fail
 refine (pm_MAllS a _).mono ?_
 rintro e w5 ⟨kb, mb, rfl, hkb, hmb, hbk, hbm, hb⟩
 clear kA0
 replace HC := Lib.hid (HC.out.push hb)
 clear hb
 have hT5 := TA.out.below (HC.out.to w (by simp)) rfl
 have hB5 := boxStays HB.out (HC.out.to w1 (by simp))
 have hV5 := boxStays HV.out (HC.out.to w4 (by simp))
 have hW5 := (HC.out.to w (by simp))
 have hz5 : y < w5.heap.size := (Array.getElem?_eq_some_iff.1 hV5).1
 have hSlt : ∀ k, (k = kb ∨ k ∈ blocks a) → k < w5.heap.size := fun k hk => by
   rcases hk with rfl | hk
   · exact (Array.getElem?_eq_some_iff.1 hbk).1
   · exact hT5.lt k hk
 have hSB : ∀ k, (k = kb ∨ k ∈ blocks a) → k ≠ y := fun k hk => by
   have h1 := Y4.out
   rcases hk with rfl | hk
   · omega
   · have := TA.out.lt k hk; omega
 have hy5 : w.heap.size ≤ y ∧ z + 1 ≠ y := by have h1 := Y4.out; omega
 have HIter := pm_from_iterS 5 ⟨#[]⟩ a kb mb w5 (fun k => k = kb ∨ k ∈ blocks a) (fun _ => False) hbk hbm hT5 (.inl rfl) (fun k hk => .inr hk) hSlt (fun h => h) (fun h => h)
 rw [fromL_all] at HIter
 have r5 : PaI (z + 1) y b w [] w5 := ⟨fun p hp => (by cases hp), hB5, hV5, hW5⟩
 have hw5 : w.heap.size ≤ w5.heap.size := hW5.size
 clear hT5 hB5 hV5 hW5 hbk hbm HC
 go_wp2_with fail
 refine (wpIn_wide (n := 6)).1 ?_
 refine range_law2 (n := 6) rfl (enters_of Try.func139 (by kernel_rfl) rfl) HIter (by omega) KeepE.trans (fun W o o' _ _ => KeepE.put W _ o' (by omega) (fun k hk => by have := hSlt k hk; omega)) (fun x => rfl) (fun pre => (by rintro _ _ _ _ h _ _; exact h)) ?_ (PaI (z + 1) y b w) (fun c pre W => c = .exit 0 ∧ PaX y b w pre W) (fun xs W => xs = items a ∧ PaI (z + 1) y b w xs W) (paI_own _ _ _ _ _ hw5) ?_ ?_ ?_ r5
   (fun pre q a' W => PaI (z + 1) y b w pre W ∧ pre ++ [q] <+: items a ∧ a' = { tmps := #[.agg #[.pointer (pa a)], .agg #[.pointer (pa b)], .pointer (some ⟨z, 0, none⟩), .pointer (some ⟨z + 1, 0, none⟩), .bool false, .pointer (some ⟨y, 0, none⟩), .string q.1, .string q.2, undef, undef, .agg #[.pointer (pa a)], .bool true, .bool false, .bool false, .agg #[.pointer (pa b)], .bool true, .bool false, .bool false, .agg #[.pointer (pa a)], .func (.func 139) #[] #[.pointer (some ⟨kb, 0, none⟩), .pointer (some ⟨mb, 0, none⟩)], .string q.1, .string q.2, undef, undef, undef, undef, undef, undef, undef, undef, undef, undef, undef, undef, undef, undef], defers := [] }) ?_ ?assign ?body ?done ?stop
 · rintro W1 _ xs A B ⟨_, rfl⟩ k o _ ho _; exact ho
 · rintro c xs A A' row ⟨h1, h2⟩ hg hr
   exact ⟨h1, paX_own _ _ _ _ hw5 xs A A' row h2 hg hr⟩
 · rintro xs A A' row ⟨h1, h2⟩ hg hr
   exact ⟨h1, paI_own _ _ _ _ _ hw5 xs A A' row h2 hg hr⟩
 · rintro W1 _ xs A B h ⟨h1, rfl⟩; exact ⟨h1, h⟩
 · rintro q a' pre A A' row ⟨h1, h2, h3⟩ hg hr
   exact ⟨paI_own _ _ _ _ _ hw5 pre A A' row h1 hg hr, h2, h3⟩
 case assign =>
   intro l pre q W K hi hx hsz hK
   have HI := Lib.hid hi
   clear hi
   simp only [encKVS, List.zip_toArray, List.zip_cons_cons, List.zip_nil_right, List.foldl_toArray, List.foldl_cons, List.foldl_nil]
   gi_wp2
   exact hK _ _ ⟨Nat.le_refl _, fun _ _ _ h _ => h⟩ (KeepE.refl _) hsz ⟨HI.out, hx, rfl⟩
 case body =>
   rintro l pre ⟨k, v⟩ a' W ⟨⟨h1, h2, h3, h4⟩, hp, rfl⟩ hsz
   have G9 := Lib.hid h1
   have X9 := Lib.hid h2
   have V9 := Lib.hid h3
   have B9 := Lib.hid h4
   have hSW : ∀ k', (k' = kb ∨ k' ∈ blocks a) → k' < W.heap.size := fun k' hk' => Nat.lt_of_lt_of_le (hSlt k' hk') hsz
   have BAD : Hid (∀ (X : World), Below W.heap.size W X → okP b (k, v) = false →
       KeepsFrom w5.heap.size W (X.setCell ⟨y, 0, none⟩ (.bool false)) ∧ KeepE (w5.heap.size + 2) (fun k => k = kb ∨ k ∈ blocks a) (fun _ => False) W (X.setCell ⟨y, 0, none⟩ (.bool false)) ∧ PaX y b w (pre ++ [(k, v)]) (X.setCell ⟨y, 0, none⟩ (.bool false))) := Lib.hid (fun X hX hbad =>
     ⟨⟨by simpa [World.setCell] using hX.size, fun k' o2 hk' ho2 hc => (Below.heap_setCell _ _ _ _ (by simp; omega)).trans ((hX.block k' (Array.getElem?_eq_some_iff.1 ho2).1).trans ho2)⟩,
       (KeepE.below hX hSW).trans (KeepE.setCell X y 0 _ (by omega) (fun h => hSB _ h rfl)),
       ⟨(k, v), by simp, hbad⟩, Boxed.set (t := 4) _ (boxStays V9.out hX), (B9.out.trans (hX.mono B9.out.size)).setCell (p := ⟨y, 0, none⟩) hy5.1 _⟩)
   have GOOD : Hid (∀ (X : World), Below W.heap.size W X → okP b (k, v) = true →
       KeepsFrom w5.heap.size W X ∧ KeepE (w5.heap.size + 2) (fun k => k = kb ∨ k ∈ blocks a) (fun _ => False) W X ∧ PaI (z + 1) y b w (pre ++ [(k, v)]) X) := Lib.hid (fun X hX hg =>
     ⟨keepsFrom_below hX _, KeepE.below hX hSW, fun p hp => by
       rcases List.mem_append.1 hp with hp | hp
       · exact G9.out p hp
       · rw [List.mem_singleton.1 hp]; exact hg, boxStays X9.out hX, boxStays V9.out hX, B9.out.trans (hX.mono B9.out.size)⟩)
   have HG := Lib.hid (pm_MGetS b k W (TB.out.below h4 rfl))
   have OKP : Hid (okP b (k, v) = (isNS (seek k b) && decide (valOr (seek k b) = v))) := Lib.hid rfl
   have x0 := cell_of_one h2
   generalize isNS (seek k b) = ib at *
   generalize valOr (seek k b) = vb at *
   clear HIter r5 h1 h2 h3 h4 hp hSW
   gi_wp2
   refine ⟨trivial, ?_⟩
   refine (CallsIn.inRound l (callsIn_wide.2 HG.out)).mono ?_
   rintro e W2 ⟨rfl, hb⟩
   have BB := Lib.hid hb
   have V2 := Lib.hid (boxStays V9.out hb)
   clear x0 hb
   cases ib with
   | false =>
     have BD := Lib.hid (BAD.out W2 BB.out (by rw [OKP.out]; rfl))
     have c2 := cell_of_one V2.out
     have f2 := frozen_of_row _ y 0 _ _ V2.out
     gi_wp2
     exact (fun h => ⟨h.1, h.2.1, rfl, h.2.2⟩) BD.out
   | true =>
     by_cases hv : vb = v
     · subst hv
       have BD := Lib.hid (GOOD.out W2 BB.out (by rw [OKP.out]; simp))
       gi_wp2
       exact BD.out
     · have BD := Lib.hid (BAD.out W2 BB.out (by rw [OKP.out]; simpa using hv))
       have hne : (vb.toList == v.toList) = false := by rw [Pm.eq_iff]; simpa using hv
       have c2 := cell_of_one V2.out
       have f2 := frozen_of_row _ y 0 _ _ V2.out
       gi_wp2
       exact (fun h => ⟨h.1, h.2.1, rfl, h.2.2⟩) BD.out
 case done =>
   rintro D xs W1 hD ⟨rfl, h1, h2, h3, h4⟩ hK
   have HKD := Lib.hid hK
   have B9 := Lib.hid h4
   have c2 := cell_of_one h3
   have GG : Hid (partT a b = true) := Lib.hid (by rw [G0.out]; exact List.all_eq_true.2 h1)
   clear HIter r5 h1 h2 h3 h4 hK
   simp only [Exit.inBlock]
   go_wp2_with fail
   try rw [Exit.noGoto_ret]
   show LeavesInM _ _ _ _ _ _ (marks [D]) _ _
   refine leaves_marks [D] _ (by simp) (fun p hp => ?_) ?_
   · obtain rfl : p = (D, .deferred (some [])) := by simpa [markF] using hp
     exact HKD.out
   · intro W' e1 e2 e3 e4 e5
     have bW : Below w.heap.size w W' := ⟨e1.trans B9.out.os, e2.trans B9.out.tape, e3.trans B9.out.output, by rw [e4]; exact B9.out.size, fun k hk => (e5 k (by simp; omega)).trans (B9.out.block k hk)⟩
     exact ⟨.bool true, by simp [results, Try.results33, go_sem], by rw [GG.out], bW⟩
 case stop =>
   rintro D c pre W1 hD hSp ⟨rfl, ⟨q, hq1, hq2⟩, h3, h4⟩ hK
   have HKD := Lib.hid hK
   have B9 := Lib.hid h4
   have c2 := cell_of_one h3
   have GG : Hid (partT a b = false) := Lib.hid (by
     rw [G0.out]
     cases e : (items a).all (okP b) with
     | false => rfl
     | true => rw [List.all_eq_true.1 e q (hSp.subset hq1)] at hq2; cases hq2)
   clear HIter r5 h3 h4 hK hq1 hq2 hSp
   gi_wp2
   go_wp2_with fail
   try rw [Exit.noGoto_ret]
   show LeavesInM _ _ _ _ _ _ (marks [D]) _ _
   refine leaves_marks [D] _ (by simp) (fun p hp => ?_) ?_
   · obtain rfl : p = (D, .deferred (some [])) := by simpa [markF] using hp
     exact HKD.out
   · intro W' e1 e2 e3 e4 e5
     have bW : Below w.heap.size w W' := ⟨e1.trans B9.out.os, e2.trans B9.out.tape, e3.trans B9.out.output, by rw [e4]; exact B9.out.size, fun k hk => (e5 k (by simp; omega)).trans (B9.out.block k hk)⟩
     exact ⟨.bool false, by simp [results, Try.results33, go_sem], by rw [GG.out], bW⟩
end Go.Proofs.Ytnpiepimajippaa
