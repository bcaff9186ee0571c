/- Words, contracts and walks that the proof stands on (TgO TgI SmP SmQ TgF ItP). -/
import Derived.Deep.DeepMust
import Derived.MapKept
import Derived.Maps.Own
import Derived.OwnWalkIn
import Derived.RangeFuncRecord
import Derived.Scope
import Derived.Test.YtjlliohjeiclaaaGreatDoorKC1
import Derived.Test.YtjlliohjeiclaaaGreatDoorKC4
import Derived.Test.YtjlliohjeiclaaaGreatDoorKC7
import Derived.Test.YtjlliohjeiclaaaGreatDoorKC8
import Derived.WalkMore
import Derived.WideKeyEntry
namespace Go.Proofs.YtjlliohjeiclaaaGreatDoor
open Go.RowKit St Pm
attribute [local go_sem] Oper.semAt_some
set_option maxRecDepth 100000 in
set_option maxHeartbeats 2000000 in
theorem ts_own1 (x : Ev) (c base n : Nat) (v : Value) (xs : List Value) (W : World) (hc : Boxed W c 22 v) (ho : W.ownsRow base 53 6 v n xs) (hb : base ≤ W.heap.size) (hcb : c < base) (hn : n ≤ 200000) :
 Calls Tryz.prog 103 #[.agg #[.int .i64 x.1.g, .int .i64 x.1.r, .string x.1.l, .int .i64 x.1.n, .int .i64 x.1.i, .string x.2], .pointer (some ⟨c, 0, none⟩)] W fun e w' =>
  ∃ v', e = .returned (.tuple #[]) ∧ Boxed w' c 22 v' ∧ w'.ownsRow base 53 6 v' (n + 1) (xs ++ elV x) ∧ RowKeep c v W w' := by
 have ET := Lib.hid elT
 have bA := below_new W (.cells #[.int .i64 x.1.g, .int .i64 x.1.r, .string x.1.l, .int .i64 x.1.n, .int .i64 x.1.i, .string x.2] 53)
 have c1 := boxStays hc bA
 have o1 := own_later ho bA (Nat.le_refl _)
 go_enter Tryz.func103, Tryz.ntmps103
 go_upto_region 1 with (fail)
 have xA := heap_alloc_new W (.cells #[.int .i64 x.1.g, .int .i64 x.1.r, .string x.1.l, .int .i64 x.1.n, .int .i64 x.1.i, .string x.2] 53)
 generalize W.alloc (.cells #[.int .i64 x.1.g, .int .i64 x.1.r, .string x.1.l, .int .i64 x.1.n, .int .i64 x.1.i, .string x.2] 53) = w1 at *
 have k0 := cell_of_row _ _ 0 _ _ _ xA
 have k1 := cell_of_row _ _ 1 _ _ _ xA
 have k2 := cell_of_row _ _ 2 _ _ _ xA
 have k3 := cell_of_row _ _ 3 _ _ _ xA
 have k4 := cell_of_row _ _ 4 _ _ _ xA
 have k5 := cell_of_row _ _ 5 _ _ _ xA
 have kc := cell_of_one c1
 have O1 := Lib.hid o1
 have C1 : Hid (Boxed w1 c 22 v) := Lib.hid c1
 have BA := Lib.hid bA
 have HBS : Hid (base ≤ w1.heap.size) := Lib.hid (Nat.le_trans hb bA.size)
 have hcs : c < w1.heap.size := (Array.getElem?_eq_some_iff.1 c1).1
 clear xA bA c1 o1 hc ho
 go_wp2_with (at_builtin; go_must (refine wpList_app rfl _ _ 22 22 rfl base 53 _ 6 64 ET.out v n xs rfl (O1.out.alloc _) _ 1 (elV x) rfl ((CellsAt.new w1 53 (0, 0) (elV x)).srcN rfl (fun u hu => elsV_one [x] u (by simpa [elsV] using hu)) Tryz.underlying22 1 (by decide)) (by omega) (by omega) (by have := HBS.out; simp; omega) ?_); go_must (intro v6 w6 hown hgr hbel _; obtain ⟨a6, cp6, hv6, _⟩ := own_slice hown; subst hv6; have c6 : Boxed w6 c 22 v := (C1.out.alloc _).kept hgr (Boxed.not_row C1.out (by decide) O1.out)); have kc6 := cell_of_one c6; have fc6 := frozen_of_row _ c 0 _ _ c6)
 have V6 : Hid (Boxed w6 c 22 v) := Lib.hid c6
 have OW6 := Lib.hid hown
 have GR := Lib.hid hgr
 clear hown hgr hbel c6 kc6 fc6 kc k0 k1 k2 k3 k4 k5
 go_end0
 have hne : some c ≠ (Value.slice a6 (n + 1) cp6).ownBlock := Boxed.not_row V6.out (by decide) OW6.out
 refine ⟨.slice a6 (n + 1) cp6, rfl, Boxed.set _ V6.out, OW6.out.kept (grownBy_setCell' w6 c _) (.inr hne.symm), RowKeep.after BA.out ⟨?_, ?_, ?_, ?_, fun k h1 h2 h3 => ?_⟩⟩
 · exact GR.out.os
 · exact GR.out.tape
 · exact GR.out.output
 · have := GR.out.size; simp [World.setCell] at this ⊢; omega
 · refine (Below.heap_setCell _ _ _ _ (by simpa using h2)).trans ((GR.out.block k (by simp; omega) (fun e => h3 e.symm)).trans ?_)
   exact (below_new w1 _).block k h1
def TwI (H : List (Nat × Obj)) (c B : Nat) (w : World) (pre : List (ByteArray × ByteArray)) (W : World) : Prop :=
 (∀ p ∈ pre, goodT p = true) ∧ (∃ v, Boxed W c 22 v ∧ W.ownsRow B 53 6 v pre.length (elsV (pre.map decT)) ∧ True) ∧ Facts H W ∧ Below w.heap.size w W
theorem twI_own {H : List (Nat × Obj)} {c B : Nat} {w : World} {M : Nat} (hH : ∀ p ∈ H, p.1 < M) (hw : w.heap.size ≤ M) : OwnFrom M (TwI H c B w) := by
 rintro pre A A' row ⟨h1, h2, h3, h4⟩ hg hr
 exact ⟨h1, (holdsRow_own B c _ _ 6 (fun pre : List (ByteArray × ByteArray) => pre.length) (fun pre => elsV (pre.map decT)) (fun _ _ => True)).from M pre A A' row h2 hg hr, facts_own (β := Unit) H M hH () A A' row h3 hg hr, ownFrom_below (β := Unit) (Nat.le_refl _) hw () A A' row h4 hg hr⟩
def TwX (r1 r2 : Nat) (w : World) (pre : List (ByteArray × ByteArray)) (W : World) : Prop :=
 (∃ p ∈ pre, goodT p = false) ∧ Boxed W r1 22 (.slice none 0 0) ∧ Boxed W r2 4 (.bool false) ∧ Below w.heap.size w W
theorem twX_own {r1 r2 : Nat} {w : World} {M : Nat} (h1 : r1 < M) (h2 : r2 < M) (hw : w.heap.size ≤ M) : OwnFrom M (TwX r1 r2 w) := by
 rintro pre A A' row ⟨g1, g2, g3, g4⟩ hg hr
 exact ⟨g1, own_block (β := Unit) h1 () A A' row g2 hg hr, own_block (β := Unit) h2 () A A' row g3 hg hr, ownFrom_below (β := Unit) (Nat.le_refl _) hw () A A' row g4 hg hr⟩
set_option maxRecDepth 100000 in
set_option maxHeartbeats 4000000 in
theorem ts_own (tr : Tr ByteArray) (w : World) (h : AtS w tr) (hz : sz tr ≤ 100000) (hk : ∀ p ∈ items tr, p.1.size ≤ 70368744177663) :
 Calls Tryz.prog 60 #[.agg #[.pointer (pa tr)]] w fun e w' =>
  ∃ v b, e = .returned (.tuple #[v, .bool b]) ∧ Below w.heap.size w w' ∧
   ((b = true ∧ (∀ p ∈ items tr, goodT p = true) ∧ w'.ownsRow w.heap.size 53 6 v (items tr).length (elsV ((items tr).map decT))) ∨
    (b = false ∧ v = .slice none 0 0 ∧ ∃ p ∈ items tr, goodT p = false)) := by
 obtain ⟨z, hz0⟩ : ∃ z, w.heap.size = z := ⟨_, rfl⟩
 have HT := Lib.hid h
 have HK := Lib.hid hk
 clear h hk
 refine (callsIn_wide (n := 6)).1 ?_
 refine callsIn_of_wp_marks Tryz.func60 rfl trivial ?_ rfl
 simp only [Tryz.ntmps60, List.size_toArray, List.length_cons, List.length_nil, Nat.reduceAdd, Nat.reduceSub, Array.replicate_succ, Array.replicate_zero, List.push_toArray, List.append_toArray, List.nil_append, List.cons_append]
 refine wpIn_wide.2 ?_
 go_wp2_with fail
 obtain ⟨w3, hw3⟩ : ∃ W, allocs w [.cells #[.pointer (pa tr)] 27, .cells #[.slice none 0 0] 22, .cells #[.bool false] 4, .cells #[.slice none 0 0] 22, .cells #[.func (.func 103) #[] #[.pointer (some ⟨z + 3, 0, none⟩)]] 157] = W := ⟨_, rfl⟩
 rw [show ((((w.alloc (.cells #[.pointer (pa tr)] 27)).alloc (.cells #[.slice none 0 0] 22)).alloc (.cells #[.bool false] 4)).alloc (.cells #[.slice none 0 0] 22)).alloc (.cells #[.func (.func 103) #[] #[.pointer (some ⟨z + 3, 0, none⟩)]] 157) = w3 from hw3]
 have hb3 : Below w.heap.size w w3 := by rw [← hw3]; exact allocs_below _ _
 have hx3 : ∀ i ob, [Obj.cells #[.pointer (pa tr)] 27, .cells #[.slice none 0 0] 22, .cells #[.bool false] 4, .cells #[.slice none 0 0] 22, .cells #[.func (.func 103) #[] #[.pointer (some ⟨z + 3, 0, none⟩)]] 157][i]? = some ob → w3.heap[z + i]? = some ob := fun i ob h => by have := allocs_get _ w i ob h; rw [hw3, hz0] at this; exact this
 have F3 : Hid (Facts [(z + 1, .cells #[.slice none 0 0] 22 (0, 0)), (z + 2, .cells #[.bool false] 4 (0, 0)), (z + 4, .cells #[.func (.func 103) #[] #[.pointer (some ⟨z + 3, 0, none⟩)]] 157 (0, 0))] w3) := Lib.hid (fun p hp => by
  simp only [List.mem_cons, List.not_mem_nil, or_false] at hp
  rcases hp with rfl | rfl | rfl
  · exact hx3 1 _ rfl
  · exact hx3 2 _ rfl
  · exact hx3 4 _ rfl)
 have Y3 : Hid (Boxed w3 (z + 3) 22 (.slice none 0 0)) := Lib.hid (hx3 3 _ rfl)
 have B3 := Lib.hid hb3
 have hz3 : z + 5 ≤ w3.heap.size := by have := (Array.getElem?_eq_some_iff.1 (hx3 4 _ rfl)).1; omega
 have q0 := cell_of_one (hx3 0 _ rfl)
 clear hb3 hx3 hw3
 go_wp2_with fail
 refine (pm_MAllS tr w3).mono ?_
 rintro e w5 ⟨kb, mb, rfl, hkb, hmb, hbk, hbm, hb⟩
 have hT5 := HT.out.below (B3.out.trans (hb.mono B3.out.size)) rfl
 have hF5 := F3.out.below hb
 have hY5 := boxStays Y3.out hb
 have hW5 : Below w.heap.size w w5 := B3.out.trans (hb.mono B3.out.size)
 have hz5 : z + 5 ≤ w5.heap.size := by have := hb.size; omega
 obtain ⟨H, hH⟩ : ∃ H : List (Nat × Obj), [(z + 1, .cells #[.slice none 0 0] 22 (0, 0)), (z + 2, .cells #[.bool false] 4 (0, 0)), (z + 4, .cells #[.func (.func 103) #[] #[.pointer (some ⟨z + 3, 0, none⟩)]] 157 (0, 0))] = H := ⟨_, rfl⟩
 have hHz : ∀ p ∈ H, p.1 < z + 5 ∧ p.1 ≠ z + 3 := by
  intro p hp
  rw [← hH] at hp
  simp only [List.mem_cons, List.not_mem_nil, or_false] at hp
  rcases hp with rfl | rfl | rfl <;> simp
 have hHm : (z + 1, Obj.cells #[.slice none 0 0] 22 (0, 0)) ∈ H ∧ (z + 2, Obj.cells #[.bool false] 4 (0, 0)) ∈ H ∧ (z + 4, Obj.cells #[.func (.func 103) #[] #[.pointer (some ⟨z + 3, 0, none⟩)]] 157 (0, 0)) ∈ H := by rw [← hH]; simp
 have hSlt : ∀ k, (k = kb ∨ k ∈ blocks tr) → k < w5.heap.size := fun k hk => by
  rcases hk with rfl | hk
  · exact (Array.getElem?_eq_some_iff.1 hbk).1
  · exact hT5.lt k hk
 have hSB : ∀ k, (k = kb ∨ k ∈ blocks tr) → k < w5.heap.size ∧ k ≠ z + 1 ∧ k ≠ z + 2 ∧ k ≠ z + 3 := fun k hk => ⟨hSlt k hk, by
  rcases hk with rfl | hk
  · omega
  · have := HT.out.lt k hk; omega⟩
 have HIter := pm_from_iterS 5 ⟨#[]⟩ tr kb mb w5 (fun k => k = kb ∨ k ∈ blocks tr) (fun x => x = 53) hbk hbm hT5 (.inl rfl) (fun k hk => .inr hk) hSlt (by decide) (by decide)
 rw [fromL_all] at HIter
 have r5 : TwI H (z + 3) w5.heap.size w [] w5 := ⟨fun p hp => (by cases hp), ⟨_, hY5, World.ownsRow_nil _ _ _ _, trivial⟩, by rw [← hH]; exact hF5, hW5⟩
 have OWN : ∀ B, w5.heap.size ≤ B → OwnFrom B (TwI H (z + 3) w5.heap.size w) := fun B hB => twI_own (fun p hp => by have := (hHz p hp).1; omega) (by omega)
 clear hT5 hF5 hY5 hW5 hb hbk hbm q0
 go_wp2_with fail
 refine (wpIn_wide (n := 6)).1 ?_
 have HH := Lib.hid hHm
 clear F3 Y3 B3 hH hHm
 refine range_law2 (n := 6) rfl (enters_of Tryz.func141 (by kernel_rfl) rfl) HIter (by omega) KeepE.trans (fun W o o' _ _ => KeepE.put W _ o' (by omega) (fun k hk => by have := hSlt k hk; omega)) (fun x => rfl) (fun pre => (by rintro _ _ _ _ h _ _; exact h)) ?_ (TwI H (z + 3) w5.heap.size w) (fun c pre W => c = .ret ∧ TwX (z + 1) (z + 2) w pre W) (fun xs W => xs = items tr ∧ TwI H (z + 3) w5.heap.size w xs W) (OWN _ (Nat.le_refl _)) ?_ ?_ ?_ r5
  (fun pre q a' W => TwI H (z + 3) w5.heap.size w pre W ∧ pre ++ [q] <+: items tr ∧ a' = { tmps := #[.agg #[.pointer (pa tr)], .pointer (some ⟨z, 0, none⟩), .pointer (some ⟨z + 1, 0, none⟩), .pointer (some ⟨z + 2, 0, none⟩), .pointer (some ⟨z + 3, 0, none⟩), .pointer (some ⟨z + 4, 0, none⟩), .string q.1, .string q.2, undef, undef, .func (.func 103) #[] #[.pointer (some ⟨z + 3, 0, none⟩)], .agg #[.pointer (pa tr)], .func (.func 141) #[] #[.pointer (some ⟨kb, 0, none⟩), .pointer (some ⟨mb, 0, none⟩)], .string q.1, .string q.2, undef, undef, undef, undef, undef, undef, undef, undef, undef, undef, undef, undef, undef, undef, undef, undef, undef], defers := [] }) ?_ ?assign ?body ?done ?stop
 · rintro W1 _ xs A B ⟨_, rfl⟩ k o _ ho _; exact ho
 · rintro c xs A A' row ⟨h1, h2⟩ hg hr
   exact ⟨h1, twX_own (by omega) (by omega) (by omega) xs A A' row h2 hg hr⟩
 · rintro xs A A' row ⟨h1, h2⟩ hg hr
   exact ⟨h1, OWN _ (Nat.le_refl _) xs A A' row h2 hg hr⟩
 · rintro W1 _ xs A B h ⟨h1, rfl⟩; exact ⟨h1, h⟩
 · rintro q a' pre A A' row ⟨h1, h2, h3⟩ hg hr
   exact ⟨OWN _ (Nat.le_refl _) pre A A' row h1 hg hr, h2, h3⟩
 case assign =>
  intro l pre q W K hi hx hsz hK
  have HI := Lib.hid hi
  clear hi
  simp only [encKVS, List.zip_toArray, List.zip_cons_cons, List.zip_nil_right, List.foldl_toArray, List.foldl_cons, List.foldl_nil]
  gi_wp2
  exact hK _ _ ⟨Nat.le_refl _, fun _ _ _ h _ => h⟩ (KeepE.refl _) hsz ⟨HI.out, hx, rfl⟩
 case body =>
  rintro l pre ⟨k, v⟩ a' W ⟨⟨h1, ⟨u, h2, h3, _⟩, h4, h5⟩, hp, rfl⟩ hsz
  have hmem : (k, v) ∈ items tr := hp.subset (by simp)
  have hks := HK.out _ hmem
  have hpl : pre.length + 1 ≤ sz tr := by have := hp.length_le; rw [sz_items] at this; simpa using this
  have G9 := Lib.hid h1
  have Y9 := Lib.hid h2
  have R9 := Lib.hid h3
  have F9 := Lib.hid h4
  have B9 := Lib.hid h5
  have hSW : ∀ k', (k' = kb ∨ k' ∈ blocks tr) → k' < W.heap.size := fun k' hk' => Nat.lt_of_lt_of_le (hSlt k' hk') hsz
  have BAD : Hid (∀ (X : World), Below W.heap.size W X → goodT (k, v) = false →
   KeepsFrom w5.heap.size W ((X.setCell ⟨z + 1, 0, none⟩ (.slice none 0 0)).setCell ⟨z + 2, 0, none⟩ (.bool false)) ∧ KeepE (w5.heap.size + 2) (fun k => k = kb ∨ k ∈ blocks tr) (fun x => x = 53) W ((X.setCell ⟨z + 1, 0, none⟩ (.slice none 0 0)).setCell ⟨z + 2, 0, none⟩ (.bool false)) ∧ TwX (z + 1) (z + 2) w (pre ++ [(k, v)]) ((X.setCell ⟨z + 1, 0, none⟩ (.slice none 0 0)).setCell ⟨z + 2, 0, none⟩ (.bool false))) := Lib.hid (fun X hX hbad => by
   have f1 := F9.out.below hX _ HH.out.1
   have f2 := F9.out.below hX _ HH.out.2.1
   have g1 : Boxed (X.setCell ⟨z + 1, 0, none⟩ (.slice none 0 0)) (z + 1) 22 (.slice none 0 0) := Boxed.set _ f1
   have g2 : Boxed (X.setCell ⟨z + 1, 0, none⟩ (.slice none 0 0)) (z + 2) 4 (.bool false) := (Below.heap_setCell _ _ _ _ (by simp)).trans f2
   have g3 : Boxed ((X.setCell ⟨z + 1, 0, none⟩ (.slice none 0 0)).setCell ⟨z + 2, 0, none⟩ (.bool false)) (z + 1) 22 (.slice none 0 0) := (Below.heap_setCell _ _ _ _ (by simp)).trans g1
   have g4 : Boxed ((X.setCell ⟨z + 1, 0, none⟩ (.slice none 0 0)).setCell ⟨z + 2, 0, none⟩ (.bool false)) (z + 2) 4 (.bool false) := Boxed.set _ g2
   refine ⟨⟨by simpa [World.setCell] using hX.size, fun k' o2 hk' ho2 hc => (Below.heap_setCell _ _ _ _ (by simp; omega)).trans ((Below.heap_setCell _ _ _ _ (by simp; omega)).trans ((hX.block k' (Array.getElem?_eq_some_iff.1 ho2).1).trans ho2))⟩,
    ((KeepE.below hX hSW).trans (KeepE.setCell X (z + 1) 0 _ (by omega) (fun h => (hSB _ h).2.1 rfl))).trans (KeepE.setCell _ (z + 2) 0 _ (by omega) (fun h => (hSB _ h).2.2.1 rfl)),
    ⟨(k, v), by simp, hbad⟩, g3, g4, ?_⟩
   exact ((B9.out.trans (hX.mono B9.out.size)).setCell (p := ⟨z + 1, 0, none⟩) (by simp; omega) _).setCell (p := ⟨z + 2, 0, none⟩) (by simp; omega) _)
  clear HIter r5 OWN h1 h2 h3 h4 h5 hp hmem
  gi_wp2
  refine ⟨trivial, ?_⟩
  refine (CallsIn.inRound l (callsIn_wide.2 (ts_OfKey k W hks))).mono ?_
  rintro e W2 ⟨rfl, hb⟩
  have bb : Below W.heap.size W W2 := hb
  have BB := Lib.hid bb
  rcases hok : ofT k with _ | x
  · have BD := Lib.hid (goodT_none (v := v) hok)
    clear hok hb bb
    simp only [elO]
    have bS := below_new W2 (.cells #[.int .i64 0, .int .i64 0, .string ⟨#[]⟩, .int .i64 0, .int .i64 0, .string ⟨#[]⟩] 53)
    have xS := heap_alloc_new W2 (.cells #[.int .i64 0, .int .i64 0, .string ⟨#[]⟩, .int .i64 0, .int .i64 0, .string ⟨#[]⟩] 53)
    have BS : Hid (Below W.heap.size W (W2.alloc (.cells #[.int .i64 0, .int .i64 0, .string ⟨#[]⟩, .int .i64 0, .int .i64 0, .string ⟨#[]⟩] 53))) := Lib.hid (BB.out.trans (bS.mono BB.out.size))
    have q5 := cell_of_row _ _ 5 _ _ _ xS
    have f1 := F9.out.below BS.out _ HH.out.1
    have f2 := F9.out.below BS.out _ HH.out.2.1
    have c1 := cell_of_one f1
    have d1 := frozen_of_row _ (z + 1) 0 _ _ f1
    have c2 := cell_of_one f2
    have d2 := frozen_of_row _ (z + 2) 0 _ _ f2
    have FIN := Lib.hid (BAD.out _ BS.out BD.out)
    clear bS xS f1 f2
    gi_wp2
    exact ⟨FIN.out.1, FIN.out.2.1, rfl, FIN.out.2.2⟩
  · obtain ⟨hg, hd⟩ := goodT_some (v := v) hok
    clear hok hb bb
    simp only [elO]
    by_cases hv : x.2 = v
    · have GD : Hid (goodT (k, v) = true) := Lib.hid (by rw [hg]; exact decide_eq_true hv)
      have DC := Lib.hid hd
      have hne : (x.2.toList == v.toList) = true := by rw [Pm.eq_iff]; exact decide_eq_true hv
      clear hg hd hv
      have bS := below_new W2 (.cells #[.int .i64 x.1.g, .int .i64 x.1.r, .string x.1.l, .int .i64 x.1.n, .int .i64 x.1.i, .string x.2] 53)
      have xS := heap_alloc_new W2 (.cells #[.int .i64 x.1.g, .int .i64 x.1.r, .string x.1.l, .int .i64 x.1.n, .int .i64 x.1.i, .string x.2] 53)
      have BS : Hid (Below W.heap.size W (W2.alloc (.cells #[.int .i64 x.1.g, .int .i64 x.1.r, .string x.1.l, .int .i64 x.1.n, .int .i64 x.1.i, .string x.2] 53))) := Lib.hid (BB.out.trans (bS.mono BB.out.size))
      have q0 := cell_of_row _ _ 0 _ _ _ xS
      have q1 := cell_of_row _ _ 1 _ _ _ xS
      have q2 := cell_of_row _ _ 2 _ _ _ xS
      have q3 := cell_of_row _ _ 3 _ _ _ xS
      have q4 := cell_of_row _ _ 4 _ _ _ xS
      have q5 := cell_of_row _ _ 5 _ _ _ xS
      have qf := cell_of_one (F9.out.below BS.out _ HH.out.2.2)
      clear bS xS
      gi_wp2
      refine ⟨trivial, ?_⟩
      refine (CallsIn.inRound l (callsIn_wide.2 (ts_own1 x (z + 3) w5.heap.size pre.length u _ _ (boxStays Y9.out BS.out) (own_later R9.out BS.out (Nat.le_refl _)) (Nat.le_trans hsz BS.out.size) (by omega) (by omega)))).mono ?_
      rintro e W4 ⟨u', rfl, hY4, hR4, hRK⟩
      have RK := RowKeep.after BS.out hRK
      have hrow : W4.ownsRow w5.heap.size 53 6 u' (pre ++ [(k, v)]).length (elsV ((pre ++ [(k, v)]).map decT)) := by
       have e1 : elsV ((pre ++ [(k, v)]).map decT) = elsV (pre.map decT) ++ elV x := by simp [elsV, DC.out]
       rw [e1, List.length_append, List.length_singleton]
       exact hR4
      have hfin : KeepsFrom w5.heap.size W W4 ∧ KeepE (w5.heap.size + 2) (fun k => k = kb ∨ k ∈ blocks tr) (fun x => x = 53) W W4 ∧ TwI H (z + 3) w5.heap.size w (pre ++ [(k, v)]) W4 :=
       ⟨RK.from Y9.out R9.out _, RowKeep.keepE (t := 53) (u := u) RK R9.out (fun k hk => ⟨(hSB k hk).1, (hSB k hk).2.2.2⟩) hSW (by omega), fun p hp => by
        rcases List.mem_append.1 hp with hp | hp
        · exact G9.out p hp
        · rw [List.mem_singleton.1 hp]; exact GD.out, ⟨u', hY4, hrow, trivial⟩, RK.facts F9.out (fun p hp => (hHz p hp).2) R9.out (fun p hp => by have := (hHz p hp).1; omega), B9.out.trans (RK.below (by omega) R9.out (by omega) B9.out.size)⟩
      have FIN := Lib.hid hfin
      clear RK hRK hY4 hR4 hrow hfin
      gi_wp2
      exact FIN.out
    · have BD : Hid (goodT (k, v) = false) := Lib.hid (by rw [hg]; exact decide_eq_false hv)
      have hne : (x.2.toList == v.toList) = false := by rw [Pm.eq_iff]; exact decide_eq_false hv
      clear hg hd hv
      have bS := below_new W2 (.cells #[.int .i64 x.1.g, .int .i64 x.1.r, .string x.1.l, .int .i64 x.1.n, .int .i64 x.1.i, .string x.2] 53)
      have xS := heap_alloc_new W2 (.cells #[.int .i64 x.1.g, .int .i64 x.1.r, .string x.1.l, .int .i64 x.1.n, .int .i64 x.1.i, .string x.2] 53)
      have BS : Hid (Below W.heap.size W (W2.alloc (.cells #[.int .i64 x.1.g, .int .i64 x.1.r, .string x.1.l, .int .i64 x.1.n, .int .i64 x.1.i, .string x.2] 53))) := Lib.hid (BB.out.trans (bS.mono BB.out.size))
      have q5 := cell_of_row _ _ 5 _ _ _ xS
      have f1 := F9.out.below BS.out _ HH.out.1
      have f2 := F9.out.below BS.out _ HH.out.2.1
      have c1 := cell_of_one f1
      have d1 := frozen_of_row _ (z + 1) 0 _ _ f1
      have c2 := cell_of_one f2
      have d2 := frozen_of_row _ (z + 2) 0 _ _ f2
      have FIN := Lib.hid (BAD.out _ BS.out BD.out)
      clear bS xS f1 f2
      gi_wp2
      exact ⟨FIN.out.1, FIN.out.2.1, rfl, FIN.out.2.2⟩
 case done =>
  rintro D xs W1 hD ⟨rfl, h1, ⟨u, h2, h3, _⟩, h4, h5⟩ hK
  have R9 := Lib.hid h3
  have G9 := Lib.hid h1
  obtain ⟨a6, cp6, hv6, _⟩ := own_slice h3
  subst hv6
  have F9 := Lib.hid h4
  have B9 := Lib.hid h5
  have Y9 := Lib.hid h2
  have HKD := Lib.hid hK
  have f1 := h4 _ HH.out.1
  have f2 := h4 _ HH.out.2.1
  clear HIter r5 OWN h1 h2 h3 h4 h5 hK
  simp only [Exit.inBlock]
  go_upto_region 10 with (fail)
  simp only [Nat.add_assoc, Nat.reduceAdd]
  obtain ⟨nn, hnn⟩ : ∃ n, (items tr).length = n := ⟨_, rfl⟩
  rw [hnn] at Y9 R9
  have HNN := Lib.hid hnn
  clear hnn
  have k0 := cell_of_one Y9.out
  have c1 := cell_of_one f1
  have d1 := frozen_of_row _ (z + 1) 0 _ _ f1
  have g1 : Boxed (W1.setCell ⟨z + 1, 0, none⟩ (.slice a6 nn cp6)) (z + 1) 22 (.slice a6 nn cp6) := Boxed.set _ f1
  have g2 : Boxed (W1.setCell ⟨z + 1, 0, none⟩ (.slice a6 nn cp6)) (z + 2) 4 (.bool false) := (Below.heap_setCell _ _ _ _ (by simp)).trans f2
  have c2 := cell_of_one f2
  have d2 := frozen_of_row _ (z + 2) 0 _ _ f2
  have G3 : Hid (Boxed ((W1.setCell ⟨z + 1, 0, none⟩ (.slice a6 nn cp6)).setCell ⟨z + 2, 0, none⟩ (.bool true)) (z + 1) 22 (.slice a6 nn cp6)) := Lib.hid ((Below.heap_setCell _ _ _ _ (by simp)).trans g1)
  have G4 : Hid (Boxed ((W1.setCell ⟨z + 1, 0, none⟩ (.slice a6 nn cp6)).setCell ⟨z + 2, 0, none⟩ (.bool true)) (z + 2) 4 (.bool true)) := Lib.hid (Boxed.set _ g2)
  have BE : Hid (Below w.heap.size w ((W1.setCell ⟨z + 1, 0, none⟩ (.slice a6 nn cp6)).setCell ⟨z + 2, 0, none⟩ (.bool true))) := Lib.hid ((B9.out.setCell (p := ⟨z + 1, 0, none⟩) (by simp; omega) _).setCell (p := ⟨z + 2, 0, none⟩) (by simp; omega) _)
  have HDE : Hid (((W1.setCell ⟨z + 1, 0, none⟩ (.slice a6 nn cp6)).setCell ⟨z + 2, 0, none⟩ (.bool true)).heap[D]? = some (.deferred (some []))) := Lib.hid ((Below.heap_setCell _ _ _ _ (by simp; omega)).trans ((Below.heap_setCell _ _ _ _ (by simp; omega)).trans HKD.out))
  have RR : Hid (((W1.setCell ⟨z + 1, 0, none⟩ (.slice a6 nn cp6)).setCell ⟨z + 2, 0, none⟩ (.bool true)).ownsRow w5.heap.size 53 6 (.slice a6 nn cp6) nn (elsV ((items tr).map decT))) := Lib.hid ((R9.out.kept (grownBy_setCell' W1 (z + 1) (.slice a6 nn cp6)) (.inr (Boxed.not_row f1 (by decide) R9.out).symm)).kept (grownBy_setCell' _ (z + 2) (.bool true)) (.inr (Boxed.not_row g2 (by decide) (R9.out.kept (grownBy_setCell' W1 (z + 1) (.slice a6 nn cp6)) (.inr (Boxed.not_row f1 (by decide) R9.out).symm))).symm))
  clear f1 f2 g1 g2
  go_wp2_with fail
  try rw [Exit.noGoto_ret]
  show LeavesInM _ _ _ _ _ _ (marks [D]) _ _
  refine leaves_marks [D] _ (by simp) (fun p hp => ?_) ?_
  · obtain rfl : p = (D, .deferred (some [])) := by simpa [markF] using hp
    exact HDE.out
  · intro W' e1 e2 e3 e4 e5
    have bW : Below w.heap.size w W' := ⟨e1.trans BE.out.os, e2.trans BE.out.tape, e3.trans BE.out.output, by rw [e4]; exact BE.out.size, fun k hk => (e5 k (by simp; omega)).trans (BE.out.block k hk)⟩
    have y1 := cell_of_one ((e5 (z + 1) (by simp; omega)).trans G3.out)
    have y2 := cell_of_one ((e5 (z + 2) (by simp; omega)).trans G4.out)
    refine ⟨.tuple #[.slice a6 nn cp6, .bool true], by simp [results, Tryz.results60, go_sem, y1, y2], _, .inr ⟨rfl, hz0 ▸ bW, fun a b h => G9.out _ h, ?_⟩⟩
    rw [HNN.out]
    have r1 := RR.out
    refine own_mono (own_grown (row := some D) r1 ⟨e1, e2, e3, Nat.le_of_eq e4.symm, fun k _ hne => e5 k (by simp; exact fun e => hne (by rw [e]))⟩ (fun k hk e => ?_)) (by omega)
    obtain rfl : D = k := Option.some.inj e
    rcases r1.2 with ⟨h9, _⟩ | ⟨g, cap, cur, h9, _, hgb, _⟩
    · rw [h9] at hk; simp [Value.ownBlock] at hk
    · rw [h9] at hk
      obtain rfl : g = D := by simpa [Value.ownBlock] using hk
      rw [HDE.out] at hgb
      cases hgb
 case stop =>
  rintro D c pre W1 hD hSp ⟨rfl, ⟨q, hq1, hq2⟩, h2, h3, h5⟩ hK
  have hq3 := hSp.subset hq1
  have B9 := Lib.hid h5
  have Y9 := Lib.hid h2
  have Z9 := Lib.hid h3
  have HKD := Lib.hid hK
  clear HIter r5 OWN h2 h3 h5 hK
  try simp only [Nat.add_assoc, Nat.reduceAdd]
  gi_wp2
  try rw [Exit.noGoto_ret]
  show LeavesInM _ _ _ _ _ _ (marks [D]) _ _
  refine leaves_marks [D] _ (by simp) (fun p hp => ?_) ?_
  · obtain rfl : p = (D, .deferred (some [])) := by simpa [markF] using hp
    exact HKD.out
  · intro W' e1 e2 e3 e4 e5
    have bW : Below w.heap.size w W' := ⟨e1.trans B9.out.os, e2.trans B9.out.tape, e3.trans B9.out.output, by rw [e4]; exact B9.out.size, fun k hk => (e5 k (by simp; omega)).trans (B9.out.block k hk)⟩
    have y1 := cell_of_one ((e5 (z + 1) (by simp; omega)).trans Y9.out)
    have y2 := cell_of_one ((e5 (z + 2) (by simp; omega)).trans Z9.out)
    exact ⟨.tuple #[.slice none 0 0, .bool false], by simp [results, Tryz.results60, go_sem, y1, y2], _, _, rfl, bW, .inr ⟨rfl, rfl, q, hq3, hq2⟩⟩
end Go.Proofs.YtjlliohjeiclaaaGreatDoor
namespace Go.Proofs.YtjlliohjeiclaaaGreatDoor
open Go.RowKit St Pm
theorem ts_ownB (tr : Tr ByteArray) (w : World) (h : AtS w tr) (hz : sz tr ≤ 100000) (hk : ∀ p ∈ items tr, p.1.size ≤ 70368744177663) :
 Calls Tryz.prog 60 #[.agg #[.pointer (pa tr)]] w fun e w' =>
  ∃ v, e = .returned (.tuple #[v, .bool ((items tr).all goodT)]) ∧ Below w.heap.size w w' ∧ ((items tr).all goodT = true → w'.ownsRow w.heap.size 53 6 v (items tr).length (elsV ((items tr).map decT))) ∧ ((items tr).all goodT = false → v = .slice none 0 0) := by
 refine (ts_own tr w h hz hk).mono ?_
 rintro e w' ⟨v, b, rfl, hb, ⟨rfl, h1, h2⟩ | ⟨rfl, rfl, q, hq, hg⟩⟩
 · have h3 : (items tr).all goodT = true := List.all_eq_true.2 h1
   rw [h3]
   exact ⟨v, rfl, hb, fun _ => h2, fun e => by cases e⟩
 · have h3 : (items tr).all goodT = false := List.all_eq_false.2 ⟨q, hq, by rw [hg]; simp⟩
   rw [h3]
   exact ⟨_, rfl, hb, fun e => (by cases e), fun _ => rfl⟩
theorem ts_May (tr : Tr ByteArray) (w : World) (h : AtS w tr) (hz : sz tr ≤ 100000) (hk : ∀ p ∈ items tr, p.1.size ≤ 70368744177663) :
 Calls Tryz.prog 19 #[.agg #[.pointer (pa tr)]] w fun e w' => e = .returned (.bool ((items tr).all goodT)) ∧ Below w.heap.size w w' := by
 have b1 := below_new w (.cells #[.pointer (pa tr)] 27)
 have C := Lib.hid (ts_ownB tr _ (h.below b1 rfl) hz hk)
 have B1 := Lib.hid b1
 obtain ⟨g, hg⟩ : ∃ g, (items tr).all goodT = g := ⟨_, rfl⟩
 rw [hg] at C ⊢
 clear h hk b1 hg
 go_enter Tryz.func19, Tryz.ntmps19
 go_wp2_with fail
 refine C.out.mono ?_
 rintro e w2 ⟨v, rfl, hb, _⟩
 go_wp2_with fail
 go_ret
 exact ⟨rfl, B1.out.trans (hb.mono B1.out.size)⟩
def InsOut (tr : Tr ByteArray) (x : Ev) (w : World) (e : Ending) (w' : World) : Prop :=
 if okV x = true ∧ (items tr).all goodT = true then ∃ t' : Tr ByteArray, PutR w.heap.size (tagK x) x.2 tr t' ∧ e = .returned (.tuple #[.agg #[.pointer (pa t')], .int .i64 0]) ∧ AtS w' t' ∧ Below w.heap.size w w'
 else e = .returned (.tuple #[.agg #[.pointer none], .int .i64 2]) ∧ Below w.heap.size w w'
set_option maxRecDepth 100000 in
set_option maxHeartbeats 4000000 in
theorem ts_Insert (tr : Tr ByteArray) (s : Sv) (x : ByteArray) (w : World) (h : AtS w tr) (hz : sz tr ≤ 100000) (hk : ∀ p ∈ items tr, p.1.size ≤ 70368744177663) (hl : s.l.size ≤ 9223372036854775807) (hG : Glob w) :
 Calls Tryz.prog 21 #[.agg #[.pointer (pa tr)], .agg #[.int .i64 s.g, .int .i64 s.r, .string s.l, .int .i64 s.n, .int .i64 s.i], .string x] w (InsOut tr (s, x) w) := by
 have O1 : Hid (∀ e w', okV (s, x) = true → (items tr).all goodT = true → ∀ t' : Tr ByteArray, PutR w.heap.size (tagK (s, x)) x tr t' → e = .returned (.tuple #[.agg #[.pointer (pa t')], .int .i64 0]) → AtS w' t' → Below w.heap.size w w' → InsOut tr (s, x) w e w') := Lib.hid (fun e w' h1 h2 t' h3 h4 h5 h6 => by unfold InsOut; rw [if_pos ⟨h1, h2⟩]; exact ⟨t', h3, h4, h5, h6⟩)
 have O2 : Hid (∀ e w', (okV (s, x) = false ∨ (items tr).all goodT = false) → e = .returned (.tuple #[.agg #[.pointer none], .int .i64 2]) → Below w.heap.size w w' → InsOut tr (s, x) w e w') := Lib.hid (fun e w' h1 h4 h6 => by unfold InsOut; rw [if_neg (by rintro ⟨a, b⟩; rcases h1 with h1 | h1; rw [a] at h1; cases h1; rw [b] at h1; cases h1)]; exact ⟨h4, h6⟩)
 have HT := Lib.hid h
 have HG := Lib.hid hG
 have HK := Lib.hid hk
 obtain ⟨g, hg⟩ : ∃ g, (items tr).all goodT = g := ⟨_, rfl⟩
 obtain ⟨ok, hok⟩ : ∃ g, okV (s, x) = g := ⟨_, rfl⟩
 rw [hg, hok] at O1 O2
 have GG := Lib.hid hg
 have GO := Lib.hid hok
 clear h hk hG hg hok
 have HC : Hid (Chain [w] w) := Lib.hid (Chain.one w)
 go_enter Tryz.func21, Tryz.ntmps21
 go_upto_region 1 with (fail)
 obtain ⟨y, hy⟩ : ∃ c, w.heap.size = c := ⟨_, rfl⟩
 try rw [hy]
 obtain ⟨w1, hw1⟩ : ∃ X, allocs w [.cells #[.pointer (pa tr)] 27, .cells #[.int .i64 s.g, .int .i64 s.r, .string s.l, .int .i64 s.n, .int .i64 s.i] 43, .cells #[.pointer none] 27] = X := ⟨_, rfl⟩
 rw [show ((w.alloc (.cells #[.pointer (pa tr)] 27)).alloc (.cells #[.int .i64 s.g, .int .i64 s.r, .string s.l, .int .i64 s.n, .int .i64 s.i] 43)).alloc (.cells #[.pointer none] 27) = w1 from hw1]
 have hb : Below w.heap.size w w1 := by rw [← hw1]; exact allocs_below _ _
 have HM : Hid (w1.heap[y]? = some (.cells #[.pointer (pa tr)] 27 (0, 0))) := Lib.hid (by have := allocs_get [.cells #[.pointer (pa tr)] 27, .cells #[.int .i64 s.g, .int .i64 s.r, .string s.l, .int .i64 s.n, .int .i64 s.i] 43, .cells #[.pointer none] 27] w 0 _ rfl; rw [hw1, hy] at this; exact this)
 have HS : Hid (w1.heap[y + 1]? = some (.cells #[.int .i64 s.g, .int .i64 s.r, .string s.l, .int .i64 s.n, .int .i64 s.i] 43 (0, 0))) := Lib.hid (by have := allocs_get [.cells #[.pointer (pa tr)] 27, .cells #[.int .i64 s.g, .int .i64 s.r, .string s.l, .int .i64 s.n, .int .i64 s.i] 43, .cells #[.pointer none] 27] w 1 _ rfl; rw [hw1, hy] at this; exact this)
 have HR : Hid (w1.heap[y + 1 + 1]? = some (.cells #[.pointer none] 27 (0, 0))) := Lib.hid (by have := allocs_get [.cells #[.pointer (pa tr)] 27, .cells #[.int .i64 s.g, .int .i64 s.r, .string s.l, .int .i64 s.n, .int .i64 s.i] 43, .cells #[.pointer none] 27] w 2 _ rfl; rw [hw1, hy] at this; exact this)
 have Sy : Hid (w.heap.size = y) := Lib.hid hy
 replace HC := Lib.hid (HC.out.push hb)
 clear hb hw1 hy
 have kS0 := cell_of_row _ _ 0 _ _ _ HS.out
 have kS1 := cell_of_row _ _ 1 _ _ _ HS.out
 have kS2 := cell_of_row _ _ 2 _ _ _ HS.out
 have kS3 := cell_of_row _ _ 3 _ _ _ HS.out
 have kS4 := cell_of_row _ _ 4 _ _ _ HS.out
 go_wp2_with fail
 refine (ts_Key x s _ hl (HG.out.below (HC.out.to w (by simp)))).mono ?_
 rintro e w2 ⟨rfl, hb⟩
 clear kS0 kS1 kS2 kS3 kS4
 replace HC := Lib.hid (HC.out.push hb)
 clear hb
 rw [GO.out]
 cases ok
 case false =>
  have RF := Lib.hid (boxStays HR.out (HC.out.to w1 (by simp)))
  have BF := Lib.hid (HC.out.to w (by simp))
  have hzs := RF.out
  have c1 := cell_of_one RF.out
  have d1 := frozen_of_row _ (y + 1 + 1) 0 _ _ RF.out
  simp only [Bool.false_eq_true, if_false]
  go_wp2_with fail
  have k1 := cell_of_one (heap_setCell_same w2 (y + 1 + 1) 0 _ _ (.pointer none) RF.out)
  refine bodyPost_ret (v := .tuple #[.agg #[.pointer none], .int .i64 2]) (by simp [results, Tryz.results21, go_sem, k1]) rfl ?_
  exact O2.out _ _ (.inl (by simp)) rfl (BF.out.setCell (p := ⟨y + 1 + 1, 0, none⟩) (by have := Sy.out; simp; omega) _)
 case true =>
  simp only [if_true]
  have kM0 := cell_of_one (boxStays HM.out (HC.out.to w1 (by simp)))
  go_wp2_with fail
  refine (ts_May tr _ (HT.out.below (HC.out.to w (by simp)) rfl) hz HK.out).mono ?_
  rintro e w3 ⟨rfl, hb⟩
  clear kM0
  replace HC := Lib.hid (HC.out.push hb)
  clear hb
  rw [GG.out]
  cases g
  case false =>
   have RF := Lib.hid (boxStays HR.out (HC.out.to w1 (by simp)))
   have BF := Lib.hid (HC.out.to w (by simp))
   have c1 := cell_of_one RF.out
   have d1 := frozen_of_row _ (y + 1 + 1) 0 _ _ RF.out
   go_wp2_with fail
   have k1 := cell_of_one (heap_setCell_same w3 (y + 1 + 1) 0 _ _ (.pointer none) RF.out)
   refine bodyPost_ret (v := .tuple #[.agg #[.pointer none], .int .i64 2]) (by simp [results, Tryz.results21, go_sem, k1]) rfl ?_
   exact O2.out _ _ (.inr (by simp)) rfl (BF.out.setCell (p := ⟨y + 1 + 1, 0, none⟩) (by have := Sy.out; simp; omega) _)
  case true =>
   have kM0 := cell_of_one (boxStays HM.out (HC.out.to w1 (by simp)))
   go_wp2_with fail
   have hN : w.heap.size ≤ w3.heap.size := (HC.out.to w (by simp)).size
   refine (pm_MPutS tr (tagK (s, x)) x w.heap.size _ hN (HT.out.below (HC.out.to w (by simp)) rfl) (by omega)).mono ?_
   rintro e w4 ⟨t', hP, rfl, hA, hb⟩
   clear kM0
   replace HC := Lib.hid (HC.out.push hb)
   clear hb
   have RF := Lib.hid (boxStays HR.out (HC.out.to w1 (by simp)))
   have BF := Lib.hid (HC.out.to w (by simp))
   have HP := Lib.hid hP
   have HA := Lib.hid hA
   clear hP hA
   have c1 := cell_of_one RF.out
   have d1 := frozen_of_row _ (y + 1 + 1) 0 _ _ RF.out
   go_wp2_with fail
   have k1 := cell_of_one (heap_setCell_same w4 (y + 1 + 1) 0 _ _ (.pointer (pa t')) RF.out)
   refine bodyPost_ret (v := .tuple #[.agg #[.pointer (pa t')], .int .i64 0]) (by simp [results, Tryz.results21, go_sem, k1]) rfl ?_
   exact O1.out _ _ (by simp) (by simp) t' HP.out rfl (HA.out.setBox RF.out (by decide) 0 (.pointer (pa t'))) (BF.out.setCell (p := ⟨y + 1 + 1, 0, none⟩) (by have := Sy.out; simp; omega) _)
end Go.Proofs.YtjlliohjeiclaaaGreatDoor
namespace Go.Proofs.YtjlliohjeiclaaaGreatDoor
open Go.RowKit St
def smK (s : Sv) : Value := .agg #[.int .i64 s.g, .int .i64 s.r, .string s.l, .int .i64 s.n, .int .i64 s.i]
def StMap (W : World) (B : Nat) (ps : List (Sv × Int)) : Prop :=
 ∃ (es : Array MapEntry) (clock : Nat), W.heap[B]? = some (.map es clock) ∧ es.toList.map (fun e => (e.key, e.val)) = ps.map fun p => (smK p.1, Value.int .i64 p.2)
theorem StMap.below {W W' : World} {B : Nat} {ps : List (Sv × Int)} (h : StMap W B ps) (hb : Below W.heap.size W W') : StMap W' B ps := by
 obtain ⟨es, c, h1, h2⟩ := h
 exact ⟨es, c, (hb.block B (Array.getElem?_eq_some_iff.1 h1).1).trans h1, h2⟩
theorem StMap.new (w : World) : StMap (w.alloc (.map #[] 0)) w.heap.size [] := ⟨#[], 0, heap_alloc_new w _, rfl⟩
def lookG (ps : List (Sv × Int)) (s : Sv) : Int := match ps.find? (fun p => decide (p.1 = s)) with
 | none => 0
 | some p => p.2
theorem smK_equal (s t : Sv) (w : World) : (Op.equal 43 (smK s) (smK t)).run Tryz.prog w = .ok (decide (s = t)) w := by
 have h := sv_eql s t w
 rw [run_eql_struct] at h
 have e : Op.equal 43 (smK s) (smK t) = Op.equalIn 10000 43 (smK s) (smK t) := rfl
 rw [e]
 unfold smK
 cases hr : (Op.equalIn 10000 43 (.agg #[.int .i64 s.g, .int .i64 s.r, .string s.l, .int .i64 s.n, .int .i64 s.i]) (.agg #[.int .i64 t.g, .int .i64 t.r, .string t.l, .int .i64 t.n, .int .i64 t.i])).run Tryz.prog w with
 | ok b w' =>
  rw [hr] at h
  simp [Result.andThen] at h
  obtain ⟨h1, h2⟩ := h
  rw [h2]
  congr 1
 | halt x w' =>
  rw [hr] at h
  cases h
theorem stFindAsking (w : World) (s : Sv) : ∀ (es : List MapEntry) (ps : List (Sv × Int)) (i : Nat), es.map (fun e => (e.key, e.val)) = ps.map (fun p => (smK p.1, Value.int .i64 p.2)) →
 ((∀ p ∈ ps, p.1 ≠ s) ∧ (Instr.findAsking 43 (smK s) es i).run Tryz.prog w = .ok none w) ∨ ((∃ p ∈ ps, p.1 = s) ∧ ∃ j, (Instr.findAsking 43 (smK s) es i).run Tryz.prog w = .ok (some (j, .int .i64 (lookG ps s))) w)
 | [], ps, i, h => by
  have : ps = [] := by simpa using h.symm
  subst this
  exact .inl ⟨by simp, by simp [Instr.findAsking]⟩
 | e :: es, [], i, h => by simp at h
 | e :: es, p :: ps, i, h => by
  simp only [List.map_cons, List.cons.injEq, Prod.mk.injEq] at h
  obtain ⟨⟨hk, hv⟩, hr⟩ := h
  have he := smK_equal s p.1 w
  by_cases e1 : s = p.1
  · refine .inr ⟨⟨p, by simp, e1.symm⟩, i, ?_⟩
    rw [decide_eq_true e1] at he
    have hl : lookG (p :: ps) s = p.2 := by unfold lookG; rw [List.find?_cons_of_pos (by simp [e1])]
    simp [Instr.findAsking, hk, hv, he, hl]
  · rw [decide_eq_false e1] at he
    have hl : lookG (p :: ps) s = lookG ps s := by unfold lookG; rw [List.find?_cons_of_neg (by simp; exact fun h => e1 h.symm)]
    rcases stFindAsking w s es ps (i + 1) hr with ⟨h1, h2⟩ | ⟨⟨q, h1, h3⟩, j, h2⟩
    · refine .inl ⟨fun q hq => ?_, by simp [Instr.findAsking, hk, he, h2]⟩
      rcases List.mem_cons.1 hq with rfl | hq
      · exact fun h => e1 h.symm
      · exact h1 q hq
    · exact .inr ⟨⟨q, by simp [h1], h3⟩, j, by rw [hl]; simp [Instr.findAsking, hk, he, h2]⟩
theorem stFindKey (w : World) (s : Sv) (es : List MapEntry) (ps : List (Sv × Int)) (h : es.map (fun e => (e.key, e.val)) = ps.map (fun p => (smK p.1, Value.int .i64 p.2))) :
 ((∀ p ∈ ps, p.1 ≠ s) ∧ (Instr.findKey 43 (smK s) es).run Tryz.prog w = .ok none w) ∨ ((∃ p ∈ ps, p.1 = s) ∧ ∃ j, (Instr.findKey 43 (smK s) es).run Tryz.prog w = .ok (some (j, .int .i64 (lookG ps s))) w) := by
 have hp := Tryz.underlying43
 cases es with
 | nil =>
  have : ps = [] := by simpa using h.symm
  subst this
  exact .inl ⟨by simp, by simp [Instr.findKey, run_underlying hp, Instr.findNow]⟩
 | cons e es =>
  have := stFindAsking w s (e :: es) ps 0 h
  unfold Instr.findKey
  simp only [Sem.run_bind, run_underlying hp, Result.andThen_ok]
  have hf : ∀ fs, Instr.findNow (.struct fs) (smK s) (e :: es) 0 = none := fun fs => by simp [Instr.findNow, Instr.sameNow]
  rw [hf]
  exact this
theorem stCheck (s : Sv) (em : Bool) (w : World) : (Instr.checkKey em 10000 43 (smK s)).run Tryz.prog w = .ok () w := by
 cases em <;> kernel_rfl
theorem stMap_look {w : World} {B : Nat} {ps : List (Sv × Int)} (h : StMap w B ps) (s : Sv) :
 (Instr.lookup 100 (.map (some B)) (smK s) false).run Tryz.prog w = .ok (.int .i64 (lookG ps s)) w := by
 obtain ⟨es, clock, hB, he⟩ := h
 have hm := Tryz.underlying100
 have hz : (zeroValue 3).run Tryz.prog w = .ok (.int .i64 0) w := by kernel_rfl
 have hc := stCheck s es.isEmpty w
 rcases stFindKey w s es.toList ps he with ⟨h1, h2⟩ | ⟨h1, j, h2⟩
 · have hl : lookG ps s = 0 := by
    unfold lookG
    rw [List.find?_eq_none.2 (fun p hp => by simpa using h1 p hp)]
   unfold Instr.lookup
   simp [run_underlying hm, Go.MapKept.run_getObj_map hB, hc, h2, hz, hl]
 · unfold Instr.lookup
   simp [run_underlying hm, Go.MapKept.run_getObj_map hB, hc, h2]
end Go.Proofs.YtjlliohjeiclaaaGreatDoor
namespace Go.Proofs.YtjlliohjeiclaaaGreatDoor
open Go.RowKit St
theorem smK_same (s : Sv) : Instr.sameBits 10000 (smK s) (smK s) = true := by
 have h : ∀ n, Instr.sameBits (n + 1) (smK s) (smK s) = true := fun n => by
  unfold smK
  simp [Instr.sameBits, Go.MapKept.bytes_beq]
 exact h 9999
theorem smK_stays (s : Sv) (w : World) : (Instr.keyThatStays (smK s) (smK s)).run Tryz.prog w = .ok (smK s) w := by
 simp [Instr.keyThatStays, smK_same]
def SeMap (W : World) (B : Nat) (f : Sv → Int) : Prop :=
 ∃ (es : Array MapEntry) (clock : Nat) (ps : List (Sv × Int)), W.heap[B]? = some (.map es clock) ∧ es.toList.map (fun e => (e.key, e.val)) = ps.map (fun p => (smK p.1, Value.int .i64 p.2)) ∧
  (es.toList.map (·.born)).Nodup ∧ (∀ x ∈ es.toList, x.born < clock) ∧ ∀ s, lookG ps s = f s
theorem SeMap.below {W W' : World} {B : Nat} {f : Sv → Int} (h : SeMap W B f) (hb : Below W.heap.size W W') : SeMap W' B f := by
 obtain ⟨es, c, ps, h1, h2⟩ := h
 exact ⟨es, c, ps, (hb.block B (Array.getElem?_eq_some_iff.1 h1).1).trans h1, h2⟩
theorem SeMap.new (w : World) : SeMap (w.alloc (.map #[] 0)) w.heap.size (fun _ => 0) := ⟨#[], 0, [], heap_alloc_new w _, rfl, by simp, fun x hx => (by simp at hx), fun s => rfl⟩
theorem SeMap.look {w : World} {B : Nat} {f : Sv → Int} (h : SeMap w B f) (s : Sv) :
 (Instr.lookup 100 (.map (some B)) (smK s) false).run Tryz.prog w = .ok (.int .i64 (f s)) w := by
 obtain ⟨es, clock, ps, h1, h2, _, _, h5⟩ := h
 rw [← h5 s]
 exact stMap_look ⟨es, clock, h1, h2⟩ s
def updG (s : Sv) (v : Int) : List (Sv × Int) → List (Sv × Int)
 | [] => []
 | p :: ps => if p.1 = s then (s, v) :: ps else p :: updG s v ps
theorem lookG_hit (p : Sv × Int) (ps : List (Sv × Int)) {s : Sv} (h : p.1 = s) : lookG (p :: ps) s = p.2 := by unfold lookG; rw [List.find?_cons_of_pos (by simp [h])]
theorem lookG_skip (p : Sv × Int) (ps : List (Sv × Int)) {s : Sv} (h : p.1 ≠ s) : lookG (p :: ps) s = lookG ps s := by unfold lookG; rw [List.find?_cons_of_neg (by simpa using h)]
theorem updG_look (s : Sv) (v : Int) (t : Sv) : ∀ {ps : List (Sv × Int)}, (∃ p ∈ ps, p.1 = s) → lookG (updG s v ps) t = if t = s then v else lookG ps t
 | [], h => by obtain ⟨_, h, _⟩ := h; cases h
 | p :: ps, h => by
  unfold updG
  by_cases hp : p.1 = s
  · rw [if_pos hp]
    by_cases ht : t = s
    · subst ht; rw [if_pos rfl, lookG_hit _ _ rfl]
    · rw [if_neg ht, lookG_skip _ _ (fun e => ht e.symm), lookG_skip _ _ (fun e => ht (by rw [← e, hp]))]
  · rw [if_neg hp]
    have ih := updG_look s v t (ps := ps) (by
     obtain ⟨q, hq, hs⟩ := h
     rcases List.mem_cons.1 hq with rfl | hq
     · exact absurd hs hp
     · exact ⟨q, hq, hs⟩)
    by_cases ht : p.1 = t
    · rw [lookG_hit _ _ ht, lookG_hit _ _ ht, if_neg (fun e => hp (by rw [ht, e]))]
    · rw [lookG_skip _ _ ht, lookG_skip _ _ ht, ih]
theorem addG_look (s : Sv) (v : Int) (t : Sv) : ∀ {ps : List (Sv × Int)}, (∀ p ∈ ps, p.1 ≠ s) → lookG (ps ++ [(s, v)]) t = if t = s then v else lookG ps t
 | [], _ => by
  by_cases ht : t = s
  · subst ht; rw [if_pos rfl]; exact lookG_hit _ _ rfl
  · rw [if_neg ht]; exact lookG_skip _ _ (fun e => ht e.symm)
 | p :: ps, h => by
  have ih := addG_look s v t (ps := ps) fun q hq => h q (List.mem_cons_of_mem _ hq)
  have h0 := h p List.mem_cons_self
  rw [List.cons_append]
  by_cases ht : p.1 = t
  · rw [lookG_hit _ _ ht, lookG_hit _ _ ht, if_neg (fun e => h0 (by rw [ht, e]))]
  · rw [lookG_skip _ _ ht, lookG_skip _ _ ht, ih]
theorem stFindAt (w : World) (s : Sv) : ∀ (es : List MapEntry) (ps : List (Sv × Int)) (i : Nat), es.map (fun e => (e.key, e.val)) = ps.map (fun p => (smK p.1, Value.int .i64 p.2)) →
 ((∀ p ∈ ps, p.1 ≠ s) ∧ (Instr.findAsking 43 (smK s) es i).run Tryz.prog w = .ok none w) ∨
 ((∃ p ∈ ps, p.1 = s) ∧ ∃ j e0, es[j]? = some e0 ∧ e0.key = smK s ∧ (Instr.findAsking 43 (smK s) es i).run Tryz.prog w = .ok (some (i + j, .int .i64 (lookG ps s))) w ∧ ∀ v, (es.set j { e0 with val := .int .i64 v }).map (fun e => (e.key, e.val)) = (updG s v ps).map (fun p => (smK p.1, Value.int .i64 p.2)))
 | [], ps, i, h => by
  have : ps = [] := by simpa using h.symm
  subst this
  exact .inl ⟨by simp, by simp [Instr.findAsking]⟩
 | e :: es, [], i, h => by simp at h
 | e :: es, p :: ps, i, h => by
  simp only [List.map_cons, List.cons.injEq, Prod.mk.injEq] at h
  obtain ⟨⟨hk, hv⟩, hr⟩ := h
  have he := smK_equal s p.1 w
  by_cases e1 : s = p.1
  · refine .inr ⟨⟨p, by simp, e1.symm⟩, 0, e, rfl, by rw [hk, e1], ?_, fun v => ?_⟩
    · rw [decide_eq_true e1] at he
      have hl : lookG (p :: ps) s = p.2 := lookG_hit _ _ e1.symm
      simp [Instr.findAsking, hk, hv, he, hl]
    · unfold updG
      rw [if_pos e1.symm]
      simp only [List.set_cons_zero, List.map_cons, hr, hk, e1]
  · rw [decide_eq_false e1] at he
    have hl : lookG (p :: ps) s = lookG ps s := lookG_skip _ _ fun h => e1 h.symm
    rcases stFindAt w s es ps (i + 1) hr with ⟨h1, h2⟩ | ⟨⟨q, h1, h3⟩, j, e0, h4, h5, h6, h7⟩
    · refine .inl ⟨fun q hq => ?_, by simp [Instr.findAsking, hk, he, h2]⟩
      rcases List.mem_cons.1 hq with rfl | hq
      · exact fun h => e1 h.symm
      · exact h1 q hq
    · refine .inr ⟨⟨q, by simp [h1], h3⟩, j + 1, e0, by simpa using h4, h5, ?_, fun v => ?_⟩
      · rw [hl]
        have e2 : i + (j + 1) = i + 1 + j := by omega
        rw [e2]
        simp [Instr.findAsking, hk, he, h6]
      · unfold updG
        rw [if_neg (fun h => e1 h.symm), List.set_cons_succ, List.map_cons, List.map_cons, h7, hk, hv]
theorem stFindKeyAt (w : World) (s : Sv) (es : List MapEntry) (ps : List (Sv × Int)) (h : es.map (fun e => (e.key, e.val)) = ps.map (fun p => (smK p.1, Value.int .i64 p.2))) :
 ((∀ p ∈ ps, p.1 ≠ s) ∧ (Instr.findKey 43 (smK s) es).run Tryz.prog w = .ok none w) ∨
 ((∃ p ∈ ps, p.1 = s) ∧ ∃ j e0, es[j]? = some e0 ∧ e0.key = smK s ∧ (Instr.findKey 43 (smK s) es).run Tryz.prog w = .ok (some (j, .int .i64 (lookG ps s))) w ∧ ∀ v, (es.set j { e0 with val := .int .i64 v }).map (fun e => (e.key, e.val)) = (updG s v ps).map (fun p => (smK p.1, Value.int .i64 p.2))) := by
 have hp := Tryz.underlying43
 cases es with
 | nil =>
  have : ps = [] := by simpa using h.symm
  subst this
  exact .inl ⟨by simp, by simp [Instr.findKey, run_underlying hp, Instr.findNow]⟩
 | cons e es =>
  have := stFindAt w s (e :: es) ps 0 h
  unfold Instr.findKey
  simp only [Sem.run_bind, run_underlying hp, Result.andThen_ok]
  have hf : ∀ fs, Instr.findNow (.struct fs) (smK s) (e :: es) 0 = none := fun fs => by simp [Instr.findNow, Instr.sameNow]
  rw [hf]
  simpa using this
theorem SeMap.count {w : World} {B : Nat} {f : Sv → Int} (h : SeMap w B f) (s : Sv) :
 ∃ (st : Nat) (o : Obj), (Instr.mapEntry 100 (.map (some B)) (smK s)).run Tryz.prog w = .ok (.tuple #[.int .i64 (f s), .int .i64 (st : Int)]) (w.putObj B o) ∧
  SeMap (w.putObj B o) B f ∧ ∀ v : Int, ∃ o', (Instr.entryStore 100 (.map (some B)) (.int .i64 (st : Int)) (.int .i64 v)).run Tryz.prog (w.putObj B o) = .ok () ((w.putObj B o).putObj B o') ∧
   SeMap ((w.putObj B o).putObj B o') B (fun t => if t = s then v else f t) := by
 obtain ⟨es, clock, ps, hB, he, hnd, hlt, hf⟩ := h
 have hm := Tryz.underlying100
 have hz : ∀ u, (zeroValue 3).run Tryz.prog u = .ok (.int .i64 0) u := fun u => by kernel_rfl
 have hc := stCheck s false w
 have hBl := (Array.getElem?_eq_some_iff.1 hB).1
 rcases stFindKeyAt w s es.toList ps he with ⟨h1, h2⟩ | ⟨h1, j, e0, h3, h4, h5, h6⟩
 · have hl : lookG ps s = 0 := by
    unfold lookG
    rw [List.find?_eq_none.2 (fun p hp => by simpa using h1 p hp)]
   refine ⟨clock, .map (es.push { key := smK s, val := .int .i64 0, born := clock }) (clock + 1), ?_, ?_, fun v => ⟨.map (es.push { key := smK s, val := .int .i64 v, born := clock }) (clock + 1), ?_, ?_⟩⟩
   · simp [Instr.mapEntry, run_underlying hm, Go.MapKept.run_getObj_map hB, hc, h2, hz, Go.MapKept.run_setObj_map _ hB, Result.andThen, ← hf, hl, goInt]
     rfl
   · refine ⟨_, _, ps ++ [(s, 0)], World.putObj_heap_same hBl, by simp [he], ?_, ?_, fun t => ?_⟩
     · simp only [Array.toList_push, List.map_append, List.map_cons, List.map_nil]
       refine List.nodup_append.2 ⟨hnd, by simp, fun a ha c hc' e1 => ?_⟩
       simp only [List.mem_singleton] at hc'
       obtain ⟨x, hx, rfl⟩ := List.mem_map.1 ha
       have := hlt x hx
       omega
     · intro x hx
       simp only [Array.toList_push, List.mem_append, List.mem_singleton] at hx
       rcases hx with hx | rfl
       · have := hlt x hx; omega
       · simp
     · rw [addG_look s 0 t h1]
       by_cases ht : t = s
       · subst ht; rw [if_pos rfl, ← hf, hl]
       · rw [if_neg ht, hf]
   · have hw2 : (w.putObj B (.map (es.push { key := smK s, val := .int .i64 0, born := clock }) (clock + 1))).heap[B]? = some (.map (es.push { key := smK s, val := .int .i64 0, born := clock }) (clock + 1)) := World.putObj_heap_same hBl
     have hidx : (es.push { key := smK s, val := .int .i64 0, born := clock }).findIdx? (fun e => ((e.born : Nat) : Int) == ((clock : Nat) : Int)) = some es.size := by
      rw [Go.WideElems.findIdx_arr]
      exact Go.WideElems.findIdx_born (l := (es.push { key := smK s, val := .int .i64 0, born := clock }).toList) (j := es.size) (e0 := { key := smK s, val := .int .i64 0, born := clock }) (by
       simp only [Array.toList_push, List.map_append, List.map_cons, List.map_nil]
       refine List.nodup_append.2 ⟨hnd, by simp, fun a ha c hc' e1 => ?_⟩
       simp only [List.mem_singleton] at hc'
       obtain ⟨x, hx, rfl⟩ := List.mem_map.1 ha
       have := hlt x hx
       omega) (by simp)
     have hmod : (es.push { key := smK s, val := .int .i64 0, born := clock }).modify es.size (fun e => { e with val := .int .i64 v }) = es.push { key := smK s, val := .int .i64 v, born := clock } := by
      apply Array.ext'
      rw [Array.toList_modify, Array.toList_push, Array.toList_push, ← Array.length_toList, Go.WideElems.modify_last]
     simp [Instr.entryStore, Go.MapKept.run_getObj_map hw2, asInt, asIntOf, hidx, hmod, Go.MapKept.run_setObj_map _ hw2, Result.andThen]
     rfl
   · refine ⟨_, _, ps ++ [(s, v)], World.putObj_heap_same (by simpa using hBl), by simp [he], ?_, ?_, fun t => ?_⟩
     · simp only [Array.toList_push, List.map_append, List.map_cons, List.map_nil]
       refine List.nodup_append.2 ⟨hnd, by simp, fun a ha c hc' e1 => ?_⟩
       simp only [List.mem_singleton] at hc'
       obtain ⟨x, hx, rfl⟩ := List.mem_map.1 ha
       have := hlt x hx
       omega
     · intro x hx
       simp only [Array.toList_push, List.mem_append, List.mem_singleton] at hx
       rcases hx with hx | rfl
       · have := hlt x hx; omega
       · simp
     · rw [addG_look s v t h1, hf]
 · have hj : es[j]? = some e0 := by simpa using h3
   have hsame : es.modify j (fun e => { e with key := smK s }) = es := by
    apply Array.ext'
    rw [Array.toList_modify, Go.ChangeMaps.modify_eq_set _ _ _ _ h3]
    have : ({ e0 with key := smK s } : MapEntry) = e0 := by rw [← h4]
    rw [this]
    exact Go.WideElems.set_self _ _ _ h3
   have hstay := smK_stays s w
   refine ⟨e0.born, .map es clock, ?_, ⟨es, clock, ps, World.putObj_heap_same hBl, he, hnd, hlt, hf⟩, fun v => ⟨.map (es.modify j (fun e => { e with val := .int .i64 v })) clock, ?_, ?_⟩⟩
   · simp [Instr.mapEntry, run_underlying hm, Go.MapKept.run_getObj_map hB, hc, h5, hj, h4, hstay, hsame, Go.MapKept.run_setObj_map _ hB, Result.andThen, ← hf, goInt]
     rfl
   · have hw2 : (w.putObj B (.map es clock)).heap[B]? = some (.map es clock) := World.putObj_heap_same hBl
     have hidx : es.findIdx? (fun e => ((e.born : Nat) : Int) == ((e0.born : Nat) : Int)) = some j := by
      rw [Go.WideElems.findIdx_arr]
      exact Go.WideElems.findIdx_born hnd h3
     simp [Instr.entryStore, Go.MapKept.run_getObj_map hw2, asInt, asIntOf, hidx, Go.MapKept.run_setObj_map _ hw2, Result.andThen]
     rfl
   · have hset : (es.modify j (fun e => { e with val := .int .i64 v })).toList = es.toList.set j { e0 with val := .int .i64 v } := by
      rw [Array.toList_modify, Go.ChangeMaps.modify_eq_set _ _ _ _ h3]
     have hbn : (es.modify j (fun e => { e with val := .int .i64 v })).toList.map (·.born) = es.toList.map (·.born) := by
      rw [hset, List.map_set]
      exact Go.WideElems.set_self _ _ _ (by rw [List.getElem?_map, h3]; rfl)
     refine ⟨_, _, updG s v ps, World.putObj_heap_same (by simpa using hBl), by rw [hset]; exact h6 v, by rw [hbn]; exact hnd, fun x hx => ?_, fun t => by rw [updG_look s v t h1, hf]⟩
     have : x.born ∈ es.toList.map (·.born) := by rw [← hbn]; exact List.mem_map.2 ⟨x, hx, rfl⟩
     obtain ⟨y, hy, he'⟩ := List.mem_map.1 this
     rw [← he']
     exact hlt y hy
end Go.Proofs.YtjlliohjeiclaaaGreatDoor
namespace Go.Proofs.YtjlliohjeiclaaaGreatDoor
open Go.RowKit St Pm
theorem ats_nds {w : World} {t : Tr ByteArray} (h : AtS w t) : ∀ b ∈ blocks t, ∃ cs, w.heap[b]? = some (.cells cs 111 (0, 0)) := by
 induction t with
 | nil => intro b hb; simp [blocks] at hb
 | node b l k v r ih1 ih2 =>
  obtain ⟨h1, h2, h3⟩ := h
  intro b' hb
  simp only [blocks, List.mem_append, List.mem_cons] at hb
  rcases hb with hb | rfl | hb
  · exact ih1 h2 b' hb
  · exact ⟨_, h1⟩
  · exact ih2 h3 b' hb
def SetOut (l : List Ev) (w : World) (e : Ending) (w' : World) : Prop :=
 if mayV l = true then ∃ t : Tr ByteArray, e = .returned (.tuple #[.agg #[.pointer (pa t)], .int .i64 0]) ∧ AtS w' t ∧ Tag (setT l) t ∧ sz t ≤ l.length ∧ Below w.heap.size w w'
 else e = .returned (.tuple #[.agg #[.pointer none], .int .i64 2]) ∧ Below w.heap.size w w'
def cntS (l : List Ev) (s : Sv) : Int := if ∃ y ∈ l, y.1 = s then 1 else 0
theorem cntS_nil : (fun _ : Sv => (0 : Int)) = cntS [] := by funext s; simp [cntS]
theorem cntS_new {l : List Ev} {x : Ev} (h : ∀ y ∈ l, y.1 ≠ x.1) : cntS l x.1 = 0 := by unfold cntS; rw [if_neg]; rintro ⟨y, hy, e⟩; exact h y hy e
theorem cntS_old {l : List Ev} {x : Ev} (h : ∃ y ∈ l, y.1 = x.1) : cntS l x.1 = 1 := by unfold cntS; rw [if_pos h]
theorem cntS_snoc {l : List Ev} {x : Ev} (h : ∀ y ∈ l, y.1 ≠ x.1) : (fun t => if t = x.1 then cntS l x.1 + 1 else cntS l t) = cntS (l ++ [x]) := by
 funext t
 by_cases ht : t = x.1
 · subst ht
   rw [if_pos rfl, cntS_new h, cntS_old (x := x) ⟨x, by simp, rfl⟩]
   rfl
 · rw [if_neg ht]
   unfold cntS
   have : (∃ y ∈ l ++ [x], y.1 = t) ↔ ∃ y ∈ l, y.1 = t := by
    constructor
    · rintro ⟨y, hy, e⟩
      rcases List.mem_append.1 hy with hy | hy
      · exact ⟨y, hy, e⟩
      · rw [List.mem_singleton.1 hy] at e; exact absurd e.symm ht
    · rintro ⟨y, hy, e⟩; exact ⟨y, List.mem_append_left _ hy, e⟩
   simp only [this]
theorem tag_sz {l : List Ev} {t : Tr ByteArray} (h : Tag (setT l) t) : sz t ≤ l.length := by
 rw [h.len]
 have : ∀ (n : Nat) (l : List Ev), l.length = n → (setT l).length ≤ n := by
  intro n
  induction n with
  | zero => intro l hl; obtain rfl := List.length_eq_zero_iff.1 hl; exact Nat.le_refl _
  | succ n ih =>
   intro l hl
   rcases List.eq_nil_or_concat l with rfl | ⟨l0, x, rfl⟩
   · simp at hl
   · rw [List.concat_eq_append] at hl ⊢
     rw [setT_snoc]
     have h1 := insT_le x (setT l0)
     have h2 := ih l0 (by simpa using hl)
     omega
 exact this _ l rfl
set_option maxRecDepth 100000 in
set_option maxHeartbeats 4000000 in
theorem ts_Of (l : List Ev) (a : Option Addr) (n c : Nat) (w : World) (hl : CellsAt w a (elsV l)) (hn : n = l.length) (hb : n ≤ 100000) (hsz : ∀ e ∈ l, e.1.l.size ≤ 9223372036854775807) (hG : Glob w) :
 Calls Tryz.prog 9 #[.slice a n c] w (SetOut l w) := by
 have HL := Lib.hid hl
 have HSZ := Lib.hid hsz
 have HN := Lib.hid hn
 have HG := Lib.hid hG
 have OUT1 : Hid (∀ t e w', mayV l = true → e = .returned (.tuple #[.agg #[.pointer (pa t)], .int .i64 0]) → AtS w' t → Tag (setT l) t → Below w.heap.size w w' → SetOut l w e w') := Lib.hid (fun t e w' h h1 h2 h3 h7 => by unfold SetOut; rw [if_pos h]; exact ⟨t, h1, h2, h3, tag_sz h3, h7⟩)
 have OUT2 : Hid (∀ e w', mayV l = false → e = .returned (.tuple #[.agg #[.pointer none], .int .i64 2]) → Below w.heap.size w w' → SetOut l w e w') := Lib.hid (fun e w' h h1 h2 => by unfold SetOut; rw [if_neg (by rw [h]; simp)]; exact ⟨h1, h2⟩)
 clear hl hsz hn hG
 have hmk := @run_makeMap Tryz.prog
 have HC : Hid (Chain [w] w) := Lib.hid (Chain.one w)
 go_enter Tryz.func9, Tryz.ntmps9
 go_upto_region 3 with (fail)
 have x0 := heap_alloc_new w (.cells #[.pointer none] 27)
 have x0 := boxStays (boxStays x0 (below_new _ (.cells #[.pointer none] 27))) (below_new _ (.map #[] 0))
 have x1 := heap_alloc_new (w.alloc (.cells #[.pointer none] 27)) (.cells #[.pointer none] 27)
 have x1 := boxStays x1 (below_new _ (.map #[] 0))
 have x2 := SeMap.new ((w.alloc (.cells #[.pointer none] 27)).alloc (.cells #[.pointer none] 27))
 have hb0 : Below w.heap.size w (((w.alloc (.cells #[.pointer none] 27)).alloc (.cells #[.pointer none] 27)).alloc (.map #[] 0)) := (((Below.refl _ w).alloc (Nat.le_refl _) _).alloc (by simp) _).alloc (by simp; omega) _
 rw [World.size_alloc] at x1
 rw [World.size_alloc, World.size_alloc] at x2
 obtain ⟨z, hz⟩ : ∃ z, w.heap.size = z := ⟨_, rfl⟩
 rw [hz] at OUT1 OUT2 x0 x1 x2 hb0
 try rw [hz]
 rw [cntS_nil] at x2
 generalize ((w.alloc (.cells #[.pointer none] 27)).alloc (.cells #[.pointer none] 27)).alloc (.map #[] 0) = W at *
 have Z := Lib.hid hz
 have HGB : Hid (∀ V, Below z w V → Glob V) := Lib.hid (fun V hV => HG.out.below (by rw [hz]; exact hV))
 clear hz
 go_wp2_with fail
 go_loopw [13] (fun i wr => ∃ (k : Nat) (t : Tr ByteArray), k ≤ n ∧ i = .int .i64 (k : Int) ∧ Hid (mayV (l.take k) = true) ∧ Hid (Tag (setT (l.take k)) t) ∧ Hid (AtS wr t) ∧ Hid (wr.heap[z]? = some (.cells #[.pointer none] 27 (0, 0))) ∧ Hid (wr.heap[z + 1]? = some (.cells #[.pointer (pa t)] 27 (0, 0))) ∧ Hid (SeMap wr (z + 1 + 1) (cntS (l.take k))) ∧ Hid (Below z w wr)) (fun i _ => n - (intOf i).toNat)
 case atStart => exact ⟨0, .nil, Nat.zero_le _, rfl, Lib.hid (by rw [List.take_zero]; exact mayV_nil), Lib.hid tag_nil, Lib.hid trivial, Lib.hid x0, Lib.hid x1, Lib.hid x2, Lib.hid hb0⟩
 clear x0 x1 x2 hb0
 case round =>
  obtain ⟨k, t, hk, rfl, HM, HTG, HAt, X0, X1, HSE, HB⟩ := hrel
  by_cases hlt : k < n
  · have hk1 : k < l.length := by have := HN.out; omega
    have GB : Hid ((okV l[k] = false ∨ ∃ y ∈ l.take k, y.1 = l[k].1) → mayV l = false) := Lib.hid (fun h => mayV_bad (k := k + 1) (by
     cases e : mayV (l.take (k + 1)) with
     | false => rfl
     | true =>
      obtain ⟨_, h2, h3⟩ := (mayV_next hk1).1 e
      rcases h with h | ⟨y, hy, h⟩
      · rw [h2] at h; cases h
      · exact absurd h (h3 y hy)))
    have GS : Hid (okV l[k] = true → (∀ y ∈ l.take k, y.1 ≠ l[k].1) → mayV (l.take (k + 1)) = true) := Lib.hid (fun h2 h3 => (mayV_next hk1).2 ⟨HM.out, h2, h3⟩)
    have GP : Hid (setT (l.take (k + 1)) = insT l[k] (setT (l.take k))) := Lib.hid (by rw [List.take_succ_eq_append_getElem hk1, setT_snoc])
    have GC : Hid ((∀ y ∈ l.take k, y.1 ≠ l[k].1) → (fun t => if t = l[k].1 then cntS (l.take k) l[k].1 + 1 else cntS (l.take k) t) = cntS (l.take (k + 1))) := Lib.hid (fun h => by rw [List.take_succ_eq_append_getElem hk1]; exact cntS_snoc h)
    have HZX : Hid (l[k].1.l.size ≤ 9223372036854775807) := Lib.hid (HSZ.out _ (List.getElem_mem hk1))
    have C0 : Hid ((∀ y ∈ l.take k, y.1 ≠ l[k].1) → cntS (l.take k) l[k].1 = 0) := Lib.hid cntS_new
    have C1 : Hid ((∃ y ∈ l.take k, y.1 = l[k].1) → cntS (l.take k) l[k].1 = 1) := Lib.hid cntS_old
    have hTl : sz t ≤ k := by have := tag_sz HTG.out; rw [List.length_take] at this; omega
    obtain ⟨ba, oa, rfl, ca⟩ := els_get (HL.out.below HB.out Z.out.symm) k hk1
    obtain ⟨x, hx⟩ : ∃ x, l[k] = x := ⟨_, rfl⟩
    rw [hx] at ca GB GS GP HZX C0 C1 GC
    clear hx
    obtain ⟨p0, p1, p2, p3, p4, p5⟩ := ca
    have hki : (k : Int) < (n : Int) := by omega
    go_upto_region 6 with (fail)
    have hbE := below_new wr (.cells #[.int .i64 x.1.g, .int .i64 x.1.r, .string x.1.l, .int .i64 x.1.n, .int .i64 x.1.i, .string x.2] 53)
    have xE := heap_alloc_new wr (.cells #[.int .i64 x.1.g, .int .i64 x.1.r, .string x.1.l, .int .i64 x.1.n, .int .i64 x.1.i, .string x.2] 53)
    generalize wr.alloc (.cells #[.int .i64 x.1.g, .int .i64 x.1.r, .string x.1.l, .int .i64 x.1.n, .int .i64 x.1.i, .string x.2] 53) = w1 at *
    obtain ⟨bE, hbE'⟩ : ∃ b, wr.heap.size = b := ⟨_, rfl⟩
    rw [hbE'] at xE
    rw [hbE']
    have hzE : z + 1 + 1 < bE := by have h1 := HSE.out; obtain ⟨es, cl, ps, h2, _⟩ := h1; have := (Array.getElem?_eq_some_iff.1 h2).1; omega
    have HB1 := Lib.hid (HB.out.trans (hbE.mono (by omega)))
    have X01 := Lib.hid (boxStays X0.out hbE)
    have X11 := Lib.hid (boxStays X1.out hbE)
    have A1 := Lib.hid (HAt.out.below hbE rfl)
    have S1 := Lib.hid (HSE.out.below hbE)
    have XE1 := Lib.hid xE
    clear hbE xE hbE' p0 p1 p2 p3 p4 p5 X0 X1 HAt HB HSE
    have c0 := cell_of_row _ _ 0 _ _ _ XE1.out
    have c1 := cell_of_row _ _ 1 _ _ _ XE1.out
    have c2 := cell_of_row _ _ 2 _ _ _ XE1.out
    have c3 := cell_of_row _ _ 3 _ _ _ XE1.out
    have c4 := cell_of_row _ _ 4 _ _ _ XE1.out
    have c5 := cell_of_row _ _ 5 _ _ _ XE1.out
    go_wp2_with fail
    refine (ts_Key x.2 x.1 w1 HZX.out (HGB.out _ HB1.out)).mono ?_
    rintro e w2 ⟨he, hb2⟩
    obtain ⟨kv, ev, hkv, h0, h2⟩ : ∃ (kv : ByteArray) (ev : Int), (if okV (x.1, x.2) = true then Value.tuple #[.string (tagK (x.1, x.2)), .int .i64 0] else .tuple #[.string ⟨#[]⟩, .int .i64 2]) = .tuple #[.string kv, .int .i64 ev] ∧ (okV x = true → kv = tagK x ∧ ev = 0) ∧ (okV x = false → ev = 2) := by
     cases hq : okV x with
     | true => exact ⟨_, _, if_pos rfl, fun _ => ⟨rfl, rfl⟩, fun h => (by cases h)⟩
     | false => exact ⟨_, _, if_neg (by simp), fun h => (by cases h), fun _ => rfl⟩
    rw [hkv] at he
    subst he
    have K0 := Lib.hid h0
    have K2 := Lib.hid h2
    clear hkv h0 h2
    have hzw : bE < w1.heap.size := (Array.getElem?_eq_some_iff.1 XE1.out).1
    have HB2 := Lib.hid (HB1.out.trans (hb2.mono (by omega)))
    have X02 := Lib.hid (boxStays X01.out hb2)
    have X12 := Lib.hid (boxStays X11.out hb2)
    have A2 := Lib.hid (A1.out.below hb2 rfl)
    have S2 := Lib.hid (S1.out.below hb2)
    have XE2 := Lib.hid (boxStays XE1.out hb2)
    have hzw2 : bE < w2.heap.size := (Array.getElem?_eq_some_iff.1 XE2.out).1
    clear hb2 c0 c1 c2 c3 c4 c5 X01 X11 A1 XE1 HB1 S1
    go_upto_region 7 with (fail)
    obtain ⟨cn, hcn⟩ : ∃ q, cntS (l.take k) x.1 = q := ⟨_, rfl⟩
    have hcnr : cn = 0 ∨ cn = 1 := by rw [← hcn]; unfold cntS; split <;> simp
    rw [hcn] at C0 C1 GC
    have sd : SeMap w2.drew (z + 1 + 1) (cntS (l.take k)) := S2.out
    have l0 := sd.look x.1
    obtain ⟨st, o1, hme, hse, hst⟩ := sd.count x.1
    have l1 := hse.look x.1
    rw [hcn] at l0 l1 hme
    obtain ⟨o2, hes, hs2⟩ := hst (cn + 1)
    have l2 := hs2.look x.1
    rw [if_pos rfl] at l2
    unfold smK at l0 l1 hme l2
    have hcw : IntKind.i64.wrap (cn + 1) = cn + 1 := by rw [IntKind.wrap_i64]; omega
    have hSd : w2.drew.heap[bE]? = some (.cells #[.int .i64 x.1.g, .int .i64 x.1.r, .string x.1.l, .int .i64 x.1.n, .int .i64 x.1.i, .string x.2] 53 (0, 0)) := XE2.out
    have S3 := Lib.hid hs2
    clear hse hst sd hs2 hcn
    refine wp_region_noPanic ?_
    refine wp_region_held_drew (S := (fun w' => w'.heap[bE]? = some (.cells #[.int .i64 x.1.g, .int .i64 x.1.r, .string x.1.l, .int .i64 x.1.n, .int .i64 x.1.i, .string x.2] 53 (0, 0)))) (by kernel_rfl) hSd (fun hS => ?_)
    refine wpAnyH_take (i := 0) (oi := ⟨some 25, _, _, _, _, _⟩) (v := ?_) rfl (by kernel_rfl) (by kernel_rfl) (by kernel_rfl) (fun _ _ _ h => h) (Or.inl ⟨by rfl, ?_⟩) hS ?_
    rotate_left 1
    · intro w' hB; have q0 := cell_of_row _ _ 0 _ _ _ hB; have q1 := cell_of_row _ _ 1 _ _ _ hB; have q2 := cell_of_row _ _ 2 _ _ _ hB; have q3 := cell_of_row _ _ 3 _ _ _ hB; have q4 := cell_of_row _ _ 4 _ _ _ hB; (go_simp <;> with_reducible rfl)
    try simp only [Act.put, List.setIfInBounds_toArray, List.set_cons_zero, List.set_cons_succ]
    refine wpAnyH_take (i := 1) (oi := ⟨some 26, _, _, _, _, _⟩) (v := ?_) rfl (by kernel_rfl) (by kernel_rfl) (by kernel_rfl) (fun _ _ _ h => h) (Or.inl ⟨by rfl, ?_⟩) hS ?_
    rotate_left 1
    · intro w' hB; have q0 := cell_of_row _ _ 0 _ _ _ hB; have q1 := cell_of_row _ _ 1 _ _ _ hB; have q2 := cell_of_row _ _ 2 _ _ _ hB; have q3 := cell_of_row _ _ 3 _ _ _ hB; have q4 := cell_of_row _ _ 4 _ _ _ hB; (go_simp <;> with_reducible rfl)
    try simp only [Act.put, List.setIfInBounds_toArray, List.set_cons_zero, List.set_cons_succ]
    refine wpAnyH_take (i := 2) (oi := ⟨some 27, _, _, _, _, _⟩) (v := ?_) rfl (by kernel_rfl) (by kernel_rfl) (by kernel_rfl) (fun _ _ _ h => h) (Or.inl ⟨by rfl, ?_⟩) hS ?_
    rotate_left 1
    · intro w' hB; have q0 := cell_of_row _ _ 0 _ _ _ hB; have q1 := cell_of_row _ _ 1 _ _ _ hB; have q2 := cell_of_row _ _ 2 _ _ _ hB; have q3 := cell_of_row _ _ 3 _ _ _ hB; have q4 := cell_of_row _ _ 4 _ _ _ hB; (go_simp <;> with_reducible rfl)
    try simp only [Act.put, List.setIfInBounds_toArray, List.set_cons_zero, List.set_cons_succ]
    refine wpAnyH_ready (rs := [3, 5]) (by kernel_rfl) (by simp) (AllReadyH.cons (o := ⟨some 28, _, _, _, _, _⟩) rfl (fun K hK => ?way2) (AllReadyH.cons (o := ⟨some 30, _, _, _, _, _⟩) rfl (fun K hK => ?way1) AllReadyH.nil))
    case' way2 =>
     go_simp
     refine hK.out _ _ hS (fun _ => ?_)
     clear hK K
     try simp only [Act.put, List.setIfInBounds_toArray, List.set_cons_zero, List.set_cons_succ]
     refine wpAnyH_take (i := 4) (oi := ⟨some 29, _, _, _, _, _⟩) (v := ?_) rfl (by kernel_rfl) (by kernel_rfl) (by kernel_rfl) (fun _ _ _ h => h) (Or.inl ⟨by rfl, ?_⟩) hS ?_
     rotate_left 1
     · intro w' hB; have q0 := cell_of_row _ _ 0 _ _ _ hB; have q1 := cell_of_row _ _ 1 _ _ _ hB; have q2 := cell_of_row _ _ 2 _ _ _ hB; have q3 := cell_of_row _ _ 3 _ _ _ hB; have q4 := cell_of_row _ _ 4 _ _ _ hB; (go_simp <;> with_reducible rfl)
     try simp only [Act.put, List.setIfInBounds_toArray, List.set_cons_zero, List.set_cons_succ]
     refine wpAnyH_ready (rs := [5]) (by kernel_rfl) (by simp) (AllReadyH.cons (o := ⟨some 30, _, _, _, _, _⟩) rfl (fun K hK => ?_) AllReadyH.nil)
     replace hS := (World.putObj_heap_other (w := w2.drew) (o := o1) (show bE ≠ z + 1 + 1 by omega)).trans hS
     go_simp
     refine hK.out _ _ hS (fun _ => ?_)
     clear hK K
     try simp only [Act.put, List.setIfInBounds_toArray, List.set_cons_zero, List.set_cons_succ]
     refine wpAnyH_take (i := 6) (oi := ⟨some 31, _, _, _, _, _⟩) (v := ?_) rfl (by kernel_rfl) (by kernel_rfl) (by kernel_rfl) (fun _ _ _ h => h) (Or.inl ⟨by rfl, ?_⟩) hS ?_
     rotate_left 1
     · intro w' hB; have q0 := cell_of_row _ _ 0 _ _ _ hB; have q1 := cell_of_row _ _ 1 _ _ _ hB; have q2 := cell_of_row _ _ 2 _ _ _ hB; have q3 := cell_of_row _ _ 3 _ _ _ hB; have q4 := cell_of_row _ _ 4 _ _ _ hB; (go_simp <;> with_reducible rfl)
     try simp only [Act.put, List.setIfInBounds_toArray, List.set_cons_zero, List.set_cons_succ]
     refine wpAnyH_ready (rs := [7]) (by kernel_rfl) (by simp) (AllReadyH.cons (o := ⟨none, _, _, _, _, _⟩) rfl (fun K hK => ?_) AllReadyH.nil)
     replace hS := (World.putObj_heap_other (w := w2.drew.putObj (z + 1 + 1) o1) (o := o2) (show bE ≠ z + 1 + 1 by omega)).trans hS
     go_simp
     refine hK.out _ _ hS (fun _ => ?_)
     clear hK K
     try simp only [Act.put, List.setIfInBounds_toArray, List.set_cons_zero, List.set_cons_succ]
     refine wpAnyH_done (by kernel_rfl) (NoPanic.normal ?_) _
    case' way1 =>
     replace hS := (World.putObj_heap_other (w := w2.drew) (o := o1) (show bE ≠ z + 1 + 1 by omega)).trans hS
     go_simp
     refine hK.out _ _ hS (fun _ => ?_)
     clear hK K
     try simp only [Act.put, List.setIfInBounds_toArray, List.set_cons_zero, List.set_cons_succ]
     refine wpAnyH_take (i := 6) (oi := ⟨some 31, _, _, _, _, _⟩) (v := ?_) rfl (by kernel_rfl) (by kernel_rfl) (by kernel_rfl) (fun _ _ _ h => h) (Or.inl ⟨by rfl, ?_⟩) hS ?_
     rotate_left 1
     · intro w' hB; have q0 := cell_of_row _ _ 0 _ _ _ hB; have q1 := cell_of_row _ _ 1 _ _ _ hB; have q2 := cell_of_row _ _ 2 _ _ _ hB; have q3 := cell_of_row _ _ 3 _ _ _ hB; have q4 := cell_of_row _ _ 4 _ _ _ hB; (go_simp <;> with_reducible rfl)
     try simp only [Act.put, List.setIfInBounds_toArray, List.set_cons_zero, List.set_cons_succ]
     refine wpAnyH_ready (rs := [3]) (by kernel_rfl) (by simp) (AllReadyH.cons (o := ⟨some 28, _, _, _, _, _⟩) rfl (fun K hK => ?_) AllReadyH.nil)
     go_simp
     refine hK.out _ _ hS (fun _ => ?_)
     clear hK K
     try simp only [Act.put, List.setIfInBounds_toArray, List.set_cons_zero, List.set_cons_succ]
     refine wpAnyH_take (i := 4) (oi := ⟨some 29, _, _, _, _, _⟩) (v := ?_) rfl (by kernel_rfl) (by kernel_rfl) (by kernel_rfl) (fun _ _ _ h => h) (Or.inl ⟨by rfl, ?_⟩) hS ?_
     rotate_left 1
     · intro w' hB; have q0 := cell_of_row _ _ 0 _ _ _ hB; have q1 := cell_of_row _ _ 1 _ _ _ hB; have q2 := cell_of_row _ _ 2 _ _ _ hB; have q3 := cell_of_row _ _ 3 _ _ _ hB; have q4 := cell_of_row _ _ 4 _ _ _ hB; (go_simp <;> with_reducible rfl)
     try simp only [Act.put, List.setIfInBounds_toArray, List.set_cons_zero, List.set_cons_succ]
     refine wpAnyH_ready (rs := [7]) (by kernel_rfl) (by simp) (AllReadyH.cons (o := ⟨none, _, _, _, _, _⟩) rfl (fun K hK => ?_) AllReadyH.nil)
     replace hS := (World.putObj_heap_other (w := w2.drew.putObj (z + 1 + 1) o1) (o := o2) (show bE ≠ z + 1 + 1 by omega)).trans hS
     go_simp
     refine hK.out _ _ hS (fun _ => ?_)
     clear hK K
     try simp only [Act.put, List.setIfInBounds_toArray, List.set_cons_zero, List.set_cons_succ]
     refine wpAnyH_done (by kernel_rfl) (NoPanic.normal ?_) _
    all_goals
     have S4 := S3
     have HB4 : Hid (Below z w ((w2.drew.putObj (z + 1 + 1) o1).putObj (z + 1 + 1) o2)) := Lib.hid ((HB2.out.drew.trans ((below_put z w2.drew (z + 1 + 1) o1 (by omega)))).trans (below_put z _ (z + 1 + 1) o2 (by omega)))
     have X04 : Hid (((w2.drew.putObj (z + 1 + 1) o1).putObj (z + 1 + 1) o2).heap[z]? = some (.cells #[.pointer none] 27 (0, 0))) := Lib.hid ((World.putObj_heap_other (by omega)).trans ((World.putObj_heap_other (by omega)).trans X02.out))
     have X14 : Hid (((w2.drew.putObj (z + 1 + 1) o1).putObj (z + 1 + 1) o2).heap[z + 1]? = some (.cells #[.pointer (pa t)] 27 (0, 0))) := Lib.hid ((World.putObj_heap_other (by omega)).trans ((World.putObj_heap_other (by omega)).trans X12.out))
     have hnd : ∀ b ∈ blocks t, b ≠ z + 1 + 1 := fun b hb e => by
      obtain ⟨es, cl, ps, h1, _⟩ := S2.out
      obtain ⟨cs, h2⟩ := ats_nds A2.out b hb
      rw [e, h1] at h2
      cases h2
     have A4 : Hid (AtS ((w2.drew.putObj (z + 1 + 1) o1).putObj (z + 1 + 1) o2) t) := Lib.hid (A2.out.keep fun b o ho hm => (World.putObj_heap_other (hnd b hm)).trans ((World.putObj_heap_other (hnd b hm)).trans ho))
     have XE4 := Lib.hid hS
     have l2' := l2
     generalize (w2.drew.putObj (z + 1 + 1) o1).putObj (z + 1 + 1) o2 = w4 at *
     clear hS l0 l1 hme hes S3 hSd X02 X12 HB2 A2 S2 XE2 hnd
     have q0 := cell_of_row _ _ 0 _ _ _ XE4.out
     have q1 := cell_of_row _ _ 1 _ _ _ XE4.out
     have q2 := cell_of_row _ _ 2 _ _ _ XE4.out
     have q3 := cell_of_row _ _ 3 _ _ _ XE4.out
     have q4 := cell_of_row _ _ 4 _ _ _ XE4.out
     have q5 := cell_of_row _ _ 5 _ _ _ XE4.out
     have k0 := cell_of_one X04.out
     have f0 := frozen_of_row _ z 0 _ _ X04.out
     cases hok : okV x with
     | false =>
      obtain rfl := K2.out hok
      have hbad := Lib.hid (GB.out (.inl hok))
      go_wp2_with fail
      have k1 := cell_of_one (heap_setCell_same w4 z 0 _ _ (.pointer none) X04.out)
      refine bodyPost_ret (v := .tuple #[.agg #[.pointer none], .int .i64 2]) (by simp [results, Tryz.results9, go_sem, k1]) rfl ?_
      exact OUT2.out _ _ hbad.out rfl (HB4.out.setCell (p := ⟨z, 0, none⟩) (Nat.le_refl _) _)
     | true =>
      obtain ⟨rfl, rfl⟩ := K0.out hok
      by_cases hin : ∃ y ∈ l.take k, y.1 = x.1
      · have hbad := Lib.hid (GB.out (.inr hin))
        obtain rfl := (C1.out hin).symm
        have hgt : (1 : Int) < 1 + 1 := by omega
        go_wp2_with fail
        have k1 := cell_of_one (heap_setCell_same w4 z 0 _ _ (.pointer none) X04.out)
        refine bodyPost_ret (v := .tuple #[.agg #[.pointer none], .int .i64 2]) (by simp [results, Tryz.results9, go_sem, k1]) rfl ?_
        exact OUT2.out _ _ hbad.out rfl (HB4.out.setCell (p := ⟨z, 0, none⟩) (Nat.le_refl _) _)
      · have hno : ∀ y ∈ l.take k, y.1 ≠ x.1 := fun y hy e => hin ⟨y, hy, e⟩
        have HM2 := Lib.hid (GS.out hok hno)
        have SE4 : Hid (SeMap w4 (z + 1 + 1) (cntS (l.take (k + 1)))) := Lib.hid (by rw [← GC.out hno]; exact S4.out)
        obtain rfl := (C0.out hno).symm
        have hOK := Lib.hid hok
        have m1 := cell_of_one X14.out
        clear hin hno
        obtain ⟨kb, hkb⟩ : ∃ b, tagK x = b := ⟨_, rfl⟩
        have HKB := Lib.hid hkb
        rw [hkb]
        clear hkb
        go_wp2_with fail
        refine (pm_MPutS t kb x.2 z w4 (by have := (Array.getElem?_eq_some_iff.1 X04.out).1; omega) A4.out (by omega)).mono ?_
        rintro e w5 ⟨t', hP, rfl, hA5, hb5⟩
        have HB5 := Lib.hid (HB4.out.trans (hb5.mono (by have := (Array.getElem?_eq_some_iff.1 X04.out).1; omega)))
        have X05 := Lib.hid (boxStays X04.out hb5)
        have X15 := Lib.hid (boxStays X14.out hb5)
        have A5 := Lib.hid hA5
        have SE5 := Lib.hid (SE4.out.below hb5)
        have TG2 : Hid (Tag (setT (l.take (k + 1))) t') := Lib.hid (by
         rw [GP.out]
         refine tag_put HTG.out hOK.out (hP.bal HTG.out.bal).1 ?_
         rw [HKB.out]
         exact hP.items HTG.out.srt)
        clear hP hA5 hb5 m1 q0 q1 q2 q3 q4 q5 k0 f0
        have f0 := frozen_of_row _ (z + 1) 0 _ _ X15.out
        have k0 := cell_of_one X15.out
        go_wp2_with fail
        have X16 := Lib.hid (heap_setCell_same w5 (z + 1) 0 _ _ (.pointer (pa t')) X15.out)
        have X06 : Hid ((w5.setCell ⟨z + 1, 0, none⟩ (.pointer (pa t'))).heap[z]? = some (.cells #[.pointer none] 27 (0, 0))) := Lib.hid ((Below.heap_setCell _ _ _ _ (by simp)).trans X05.out)
        have A6 := Lib.hid (A5.out.setBox X15.out (by decide) 0 (.pointer (pa t')))
        have HB6 := Lib.hid (HB5.out.setCell (p := ⟨z + 1, 0, none⟩) (by simp) (.pointer (pa t')))
        have SE6 : Hid (SeMap (w5.setCell ⟨z + 1, 0, none⟩ (.pointer (pa t'))) (z + 1 + 1) (cntS (l.take (k + 1)))) := Lib.hid (by
         obtain ⟨es, cl, ps, h1, h2⟩ := SE5.out
         exact ⟨es, cl, ps, (Below.heap_setCell _ _ _ _ (by simp)).trans h1, h2⟩)
        go_roundw
        case rel => exact ⟨k + 1, t', by omega, by go_num, HM2, TG2, A6, X06, X16, SE6, HB6⟩
        case measure => simp [intOf]; omega
  · obtain rfl : k = n := by omega
    have HMF : Hid (mayV l = true) := Lib.hid (by have := HM.out; rw [HN.out, List.take_length] at this; exact this)
    have HIF : Hid (Tag (setT l) t) := Lib.hid (by have := HTG.out; rw [HN.out, List.take_length] at this; exact this)
    have f0 := frozen_of_row _ z 0 _ _ X0.out
    have k0 := cell_of_one X0.out
    have m0 := cell_of_one X1.out
    go_wp2_with fail
    have k1 := cell_of_one (heap_setCell_same wr z 0 _ _ (.pointer (pa t)) X0.out)
    refine bodyPost_ret (v := .tuple #[.agg #[.pointer (pa t)], .int .i64 0]) (by simp [results, Tryz.results9, go_sem, k1]) rfl ?_
    exact OUT1.out t _ _ HMF.out rfl (HAt.out.setBox X0.out (by decide) 0 _) HIF.out (HB.out.setCell (p := ⟨z, 0, none⟩) (Nat.le_refl _) _)
end Go.Proofs.YtjlliohjeiclaaaGreatDoor
namespace Go.Proofs.YtjlliohjeiclaaaGreatDoor
open Go.RowKit St Pm
theorem KeepE.own {M base size n : Nat} {S : Nat → Prop} {e : TypeId} {v : Value} {xs : List Value} {A B : World} (h : KeepE M S (fun _ => False) A B) (ho : A.ownsRow base e size v n xs) (hM : M ≤ base) : B.ownsRow base e size v n xs := by
 refine ⟨ho.1, ?_⟩
 rcases ho.2 with h1 | ⟨g, cap, cur, hv, hb, hg, h3⟩
 · exact .inl h1
 · exact .inr ⟨g, cap, cur, hv, hb, h.rest g _ (by omega) hg (fun _ _ _ _ h => h), h3⟩
def shown (t : Tr ByteArray) : List Ev := if (items t).all goodP = true then (items t).map decV else []
theorem Reg.shown {l : List Ev} {t : Tr ByteArray} (h : Reg l t) : shown t = l := by unfold Go.Proofs.YtjlliohjeiclaaaGreatDoor.shown; rw [if_pos h.good, h.dec]
theorem heap_kept {A A' : World} {row : Option Nat} (hg : A.grownBy A' row) (hr : ∀ r, row = some r → ∃ o : Obj, A.heap[r]? = some o ∧ o.isCells = false) {g : Nat} {c : Array Value} {t : TypeId} {fr : Nat × Nat} (h : A.heap[g]? = some (.cells c t fr)) : A'.heap[g]? = some (.cells c t fr) := by
 refine (hg.block g (Array.getElem?_eq_some_iff.1 h).1 fun e => ?_).trans h
 obtain ⟨o, ho, hc⟩ := hr g e.symm
 rw [h] at ho; cases ho; cases hc
end Go.Proofs.YtjlliohjeiclaaaGreatDoor
