
/- Walks: Make; Of of lists of unlike lengths. -/
import Derived.Test.YtikdlhbamdefaaaPmNI
import Derived.Test.YtikdlhbamdefaaaPmLI
namespace Go.Proofs.Ytikdlhbamdefaaa
open Go.RowKit Pm
/-- What Make answers. -/
def MakeOutI (N : Nat) (l : Tr Int) (k : ByteArray) (v : Int) (r : Tr Int) (w : World) (e : Ending) (w' : World) : Prop :=
  ∃ (t' : Tr Int) (n : Nat), (((joinOKI l k r ∧ ht l ≤ ht r + 1 ∧ ht r ≤ ht l + 1) ∧ (∃ b, N ≤ b ∧ t' = .node b l k v r) ∧ n = 0) ∨ (¬ (joinOKI l k r ∧ ht l ≤ ht r + 1 ∧ ht r ≤ ht l + 1) ∧ t' = .nil ∧ n = 2)) ∧ e = .returned (.tuple #[.agg #[.pointer (pa t')], .int .i64 (n : Int)]) ∧ AtI w' t' ∧ Below w.heap.size w w'
set_option maxRecDepth 100000 in
set_option maxHeartbeats 4000000 in
theorem pm_MakeI (l r : Tr Int) (k : ByteArray) (v : Int) (N : Nat) (w : World) (hN : N ≤ w.heap.size) (hl : AtI w l) (hr : AtI w r) (hs : sz l + sz r + 2 ≤ 1099511627776) :
    Calls Try.prog 18 #[.pointer (pa l), .string k, .int .i64 v, .pointer (pa r)] w (MakeOutI N l k v r w) := by
  obtain ⟨w1, hw1⟩ : ∃ w1, w.alloc (.cells #[.pointer none] 26) = w1 := ⟨_, rfl⟩
  have hb : Below w.heap.size w w1 := by rw [← hw1]; exact below_new w _
  have x2 : w1.heap[w.heap.size]? = some (.cells #[.pointer none] 26 (0, 0)) := by rw [← hw1]; exact heap_alloc_new w _
  have X2 := Lib.hid x2
  have HL := Lib.hid (hl.below hb rfl)
  have HR := Lib.hid (hr.below hb rfl)
  have HB := Lib.hid hb
  have HW := Lib.hid hw1
  have HZ := Lib.hid hs
  have hh1 := ht_le l
  have hh2 := ht_le r
  have hq1 : ht l ≤ 1099511627776 := by omega
  have hq2 : ht r ≤ 1099511627776 := by omega
  clear hl hr hb hw1 x2 hs hh1 hh2
  go_enter Try.func18, Try.ntmps18
  go_wp2_with fail
  rw [HW.out]
  refine (pm_HeightI l w1 HL.out).mono ?_
  rintro e w' ⟨rfl, rfl⟩
  go_wp2_with fail
  refine (pm_HeightI r w1 HR.out).mono ?_
  rintro e w' ⟨rfl, rfl⟩
  go_wp2_with fail
  refine (pm_MLastI l w1 HL.out).mono ?_
  rintro e w2 ⟨rfl, hb⟩
  have HC : Hid (Chain [w2, w1] w2) := Lib.hid ((Chain.one w1).push hb)
  clear hb
  go_wp2_with fail
  refine (pm_MFirstI r w2 (HR.out.below (HC.out.to w1 (by simp)) rfl)).mono ?_
  rintro e w3 ⟨rfl, hb⟩
  replace HC := Lib.hid (HC.out.push hb)
  clear hb
  have D3 : Hid (Below w.heap.size w w3) := Lib.hid (HB.out.trans ((HC.out.to w1 (by simp)).mono HB.out.size))
  have Y2 := Lib.hid (boxStays X2.out (HC.out.to w1 (by simp)))
  have AL := Lib.hid (HL.out.below (HC.out.to w1 (by simp)) rfl)
  have AR := Lib.hid (HR.out.below (HC.out.to w1 (by simp)) rfl)
  clear X2 HL HR HC HW HB
  obtain ⟨q1, hq1'⟩ : ∃ q, isNI (endR l) = q := ⟨_, rfl⟩
  obtain ⟨q2, hq2'⟩ : ∃ q, isNI (endL r) = q := ⟨_, rfl⟩
  obtain ⟨a, ha⟩ : ∃ q, keyOr (endR l) = q := ⟨_, rfl⟩
  obtain ⟨b, hb⟩ : ∃ q, keyOr (endL r) = q := ⟨_, rfl⟩
  obtain ⟨hl, hhl⟩ : ∃ q, ht l = q := ⟨_, rfl⟩
  obtain ⟨hr, hhr⟩ : ∃ q, ht r = q := ⟨_, rfl⟩
  have HOK : Hid ((joinOKI l k r ∧ ht l ≤ ht r + 1 ∧ ht r ≤ ht l + 1) ↔ ((q1 = true → klt a k = true) ∧ (q2 = true → klt k b = true)) ∧ hl ≤ hr + 1 ∧ hr ≤ hl + 1) := Lib.hid (by unfold joinOKI; rw [hq1', hq2', ha, hb, hhl, hhr])
  rw [hhl] at hq1
  rw [hhr] at hq2
  rw [hq1', hq2', ha, hb, hhl, hhr]
  clear hq1' hq2' ha hb hhl hhr
  have f0 := frozen_of_row _ w.heap.size 0 _ _ Y2.out
  have k2 := cell_of_one Y2.out
  have hcase : (hl + 1 < hr) ∨ (hr + 1 < hl) ∨ ((hl ≤ hr + 1 ∧ hr ≤ hl + 1) ∧ ((q1 = true ∧ klt a k = false) ∨ ((q1 = false ∨ (q1 = true ∧ klt a k = true)) ∧ (q2 = false ∨ (q2 = true ∧ klt k b = true) ∨ (q2 = true ∧ klt k b = false ∧ klt b k = true) ∨ (q2 = true ∧ b = k))))) := by
    have g : ((q1 = true ∧ klt a k = false) ∨ ((q1 = false ∨ (q1 = true ∧ klt a k = true)) ∧ (q2 = false ∨ (q2 = true ∧ klt k b = true) ∨ (q2 = true ∧ klt k b = false ∧ klt b k = true) ∨ (q2 = true ∧ b = k)))) := by
      cases q1 <;> cases q2 <;> cases h1 : klt a k <;> cases h2 : klt k b <;> cases h3 : klt b k <;> simp_all
      all_goals exact (klt_tri h2 h3).symm
    by_cases c1 : hl + 1 < hr
    · exact .inl c1
    · by_cases c2 : hr + 1 < hl
      · exact .inr (.inl c2)
      · exact .inr (.inr ⟨by omega, g⟩)
  have bad : ∀ (hn : ¬ (joinOKI l k r ∧ ht l ≤ ht r + 1 ∧ ht r ≤ ht l + 1)), MakeOutI N l k v r w (.returned (.tuple #[.agg #[.pointer none], .int .i64 2])) (w3.setCell ⟨w.heap.size, 0, none⟩ (.pointer none)) := fun hn =>
      ⟨.nil, 2, .inr ⟨hn, rfl, rfl⟩, rfl, trivial, D3.out.setCell (p := ⟨w.heap.size, 0, none⟩) (by simp) _⟩
  have BAD := Lib.hid bad
  clear bad
  rcases hcase with c1 | c2 | ⟨⟨c3, c4⟩, hcase⟩
  · have hi1 : (hl : Int) - (hr : Int) < -1 := by omega
    have hnok : Hid (¬ (joinOKI l k r ∧ ht l ≤ ht r + 1 ∧ ht r ≤ ht l + 1)) := Lib.hid (by rw [HOK.out]; omega)
    go_wp2_with fail
    have k3 := cell_of_one (heap_setCell_same w3 w.heap.size 0 _ _ (.pointer none) Y2.out)
    refine bodyPost_ret (v := .tuple #[.agg #[.pointer none], .int .i64 2]) (by simp [results, Try.results18, go_sem, k3]) rfl ?_
    exact BAD.out hnok.out
  · have hi0 : ¬ (hl : Int) - (hr : Int) < -1 := by omega
    have hi1 : 1 < (hl : Int) - (hr : Int) := by omega
    have hnok : Hid (¬ (joinOKI l k r ∧ ht l ≤ ht r + 1 ∧ ht r ≤ ht l + 1)) := Lib.hid (by rw [HOK.out]; omega)
    go_wp2_with fail
    have k3 := cell_of_one (heap_setCell_same w3 w.heap.size 0 _ _ (.pointer none) Y2.out)
    refine bodyPost_ret (v := .tuple #[.agg #[.pointer none], .int .i64 2]) (by simp [results, Try.results18, go_sem, k3]) rfl ?_
    exact BAD.out hnok.out
  · have hi0 : ¬ (hl : Int) - (hr : Int) < -1 := by omega
    have hi1 : ¬ 1 < (hl : Int) - (hr : Int) := by omega
    have HH : Hid (hl ≤ hr + 1 ∧ hr ≤ hl + 1) := Lib.hid ⟨c3, c4⟩
    clear c3 c4
    rcases hcase with ⟨rfl, h1⟩ | ⟨hl, hr⟩
    · have e1 : Op.bytesLess a.toList k.toList = false := h1
      have hnok : Hid (¬ (joinOKI l k r ∧ ht l ≤ ht r + 1 ∧ ht r ≤ ht l + 1)) := Lib.hid (by rw [HOK.out, h1]; simp)
      go_wp2_with fail
      have k3 := cell_of_one (heap_setCell_same w3 w.heap.size 0 _ _ (.pointer none) Y2.out)
      refine bodyPost_ret (v := .tuple #[.agg #[.pointer none], .int .i64 2]) (by simp [results, Try.results18, go_sem, k3]) rfl ?_
      exact BAD.out hnok.out
    · rcases hl with rfl | ⟨rfl, h1⟩ <;> rcases hr with rfl | ⟨rfl, h2⟩ | ⟨rfl, h2, h3⟩ | ⟨rfl, rfl⟩
      all_goals (try (have e1 : Op.bytesLess a.toList k.toList = true := h1))
      all_goals (try (have e2 : Op.bytesLess b.toList k.toList = false := klt_asymm h2; have e3 : (b.toList == k.toList) = false := (by rw [eq_iff]; simp; exact Ne.symm (klt_ne h2))))
      all_goals (try (have e2 : Op.bytesLess b.toList k.toList = true := h3))
      all_goals (try (have e2 : Op.bytesLess b.toList b.toList = false := klt_irrefl b))
      all_goals (go_wp2_with fail)
      all_goals first
        | (have hnok : ¬ (joinOKI l k r ∧ ht l ≤ ht r + 1 ∧ ht r ≤ ht l + 1) := (by rw [HOK.out]; simp [h2])
           have k3 := cell_of_one (heap_setCell_same w3 w.heap.size 0 _ _ (.pointer none) Y2.out)
           refine bodyPost_ret (v := .tuple #[.agg #[.pointer none], .int .i64 2]) (by simp [results, Try.results18, go_sem, k3]) rfl ?_
           exact BAD.out hnok)
        | (have hnok : ¬ (joinOKI l b r ∧ ht l ≤ ht r + 1 ∧ ht r ≤ ht l + 1) := (by rw [HOK.out]; simp [klt_irrefl])
           have k3 := cell_of_one (heap_setCell_same w3 w.heap.size 0 _ _ (.pointer none) Y2.out)
           refine bodyPost_ret (v := .tuple #[.agg #[.pointer none], .int .i64 2]) (by simp [results, Try.results18, go_sem, k3]) rfl ?_
           exact BAD.out hnok)
        | (refine (pm_nodeI N l r k v w3 (Nat.le_trans hN D3.out.size) AL.out AR.out (by have := HZ.out; omega)).mono ?_
           rintro e w4 ⟨bb, hbb, rfl, hA, hb⟩
           have P1 := Lib.hid hbb
           have A1 := Lib.hid hA
           have D4 : Hid (Below w.heap.size w w4) := Lib.hid (D3.out.trans (hb.mono D3.out.size))
           have Y4 := Lib.hid (boxStays Y2.out hb)
           clear hbb hA hb f0 k2
           have f0 := frozen_of_row _ w.heap.size 0 _ _ Y4.out
           have k2 := cell_of_one Y4.out
           obtain ⟨tt, htt⟩ : ∃ tt : Tr Int, Tr.node bb l k v r = tt := ⟨_, rfl⟩
           have HT := Lib.hid htt
           rw [htt]
           clear htt
           go_wp2_with fail
           have k3 := cell_of_one (heap_setCell_same w4 w.heap.size 0 _ _ (.pointer (pa tt)) Y4.out)
           clear f0 k2
           refine bodyPost_ret (v := .tuple #[.agg #[.pointer (pa tt)], .int .i64 0]) (by simp [results, Try.results18, go_sem, k3]) rfl ?_
           exact ⟨tt, 0, .inl ⟨by rw [HOK.out]; have := HH.out; simp [*], ⟨bb, P1.out, HT.out.symm⟩, rfl⟩, rfl, by rw [← HT.out]; exact A1.out.setBox Y4.out (by decide) 0 _, D4.out.setCell (p := ⟨w.heap.size, 0, none⟩) (by simp) _⟩)
/-- Of, where the lists are not as long. -/
theorem pm_OfBadI (ak av : Option Addr) (nk nv ck cv : Nat) (w : World) (h : nk ≠ nv) (h1 : nk ≤ 1073741824) (h2 : nv ≤ 9223372036854775807) :
    Calls Try.prog 15 #[.slice ak nk ck, .slice av nv cv] w fun e w' => e = .returned (.tuple #[.agg #[.pointer none], .int .i64 2]) ∧ Below w.heap.size w w' := by
  have hne : decide ((nk : Int) = (nv : Int)) = false := by simp; omega
  have hne2 : ((nk : Int) != (nv : Int)) = true := by simp; omega
  have hne3 : ((nk : Int) == (nv : Int)) = false := by simp; omega
  go_enter Try.func15, Try.ntmps15
  go_wp2_with fail
  have k3 := cell_of_one (boxStays (heap_alloc_new w (.cells #[.pointer none] 26)) (below_new _ (.cells #[.pointer none] 26)))
  refine bodyPost_ret (v := .tuple #[.agg #[.pointer none], .int .i64 2]) (by simp [results, Try.results15, go_sem, k3]) rfl ⟨rfl, ((Below.refl _ _).alloc (Nat.le_refl _) _).alloc (by simp) _⟩
/-- What Of answers of any lists. -/
def OfAllI (ks : List ByteArray) (vs : List Int) (t' : Tr Int) (n : Int) : Prop :=
  (ks.length = vs.length ∧ ofL [] (ks.zip vs) = some (items t') ∧ Bal t' ∧ Srt (items t') ∧ n = 0) ∨ ((ks.length ≠ vs.length ∨ ofL [] (ks.zip vs) = none) ∧ t' = .nil ∧ n = 2)
theorem pm_OfAnyI (ks : List ByteArray) (vs : List Int) (ak av : Option Addr) (ck cv : Nat) (w : World) (hk : CellsAt w ak (ks.map Value.string)) (hv : CellsAt w av (vs.map (Value.int .i64))) (hn : ks.length ≤ 1073741824) (hm : vs.length ≤ 9223372036854775807) :
    Calls Try.prog 15 #[.slice ak ks.length ck, .slice av vs.length cv] w fun e w' => ∃ (t' : Tr Int) (n : Int), OfAllI ks vs t' n ∧ e = .returned (.tuple #[.agg #[.pointer (pa t')], .int .i64 n]) ∧ AtI w' t' ∧ Below w.heap.size w w' := by
  by_cases h : ks.length = vs.length
  · have hz : (ks.zip vs).length = ks.length := by simp; omega
    have h1 : kkeysI (ks.zip vs) = ks.map Value.string := by
      have e : kkeysI (ks.zip vs) = ((ks.zip vs).map Prod.fst).map Value.string := by rw [List.map_map]; rfl
      rw [e, List.map_fst_zip (by omega)]
    have h2 : kvalsI (ks.zip vs) = vs.map (Value.int .i64) := by
      have e : kvalsI (ks.zip vs) = ((ks.zip vs).map Prod.snd).map (Value.int .i64) := by rw [List.map_map]; rfl
      rw [e, List.map_snd_zip (by omega)]
    have := pm_OfI (ks.zip vs) ak av ck cv w (by rw [h1]; exact hk) (by rw [h2]; exact hv) (by omega)
    rw [hz] at this
    rw [← h]
    refine this.mono ?_
    rintro e w' ⟨t', n, hc, rfl, hA, hB⟩
    refine ⟨t', (n : Int), ?_, rfl, hA, hB⟩
    rcases hc with ⟨c1, c2, c3, rfl⟩ | ⟨c1, c2, rfl⟩
    · exact .inl ⟨h, c1, c2, c3, rfl⟩
    · exact .inr ⟨.inr c1, c2, rfl⟩
  · refine (pm_OfBadI ak av ks.length vs.length ck cv w h hn hm).mono ?_
    rintro e w' ⟨rfl, hB⟩
    exact ⟨.nil, 2, .inr ⟨.inl h, rfl, rfl⟩, rfl, trivial, hB⟩
end Go.Proofs.Ytikdlhbamdefaaa

