
/- Walks: the law's known. -/
import Derived.Test.YtikdlhbamdefaaaLwH
namespace Go.Proofs.Ytikdlhbamdefaaa
open Go.RowKit Pm
theorem kn_take (t : Tr Int) (W : World) (hi : items t = three) (hA : AtI W t) : Calls Try.prog 7 #[.agg #[.pointer (pa t)], .string ⟨#[98]⟩] W fun e w' => ∃ t', e = .returned (.agg #[.pointer (pa t')]) ∧ seek kB t' = .nil ∧ AtI w' t' ∧ Below W.heap.size W w' := by
  have hs : Srt (items t) := by rw [hi]; exact srt_three
  have hz : sz t = 3 := by rw [← sz_items, hi]; rfl
  refine (pm_MTakeI t kB W.heap.size W (Nat.le_refl _) hA (by rw [hz]; omega)).mono ?_
  rintro e w' ⟨t', hh, rfl, hA', hb⟩
  refine ⟨t', rfl, ?_, hA', hb⟩
  rcases hh with ⟨h1, rfl⟩ | ⟨_, h1⟩
  · exact h1
  · refine seek_out fun x hx => ?_
    rw [h1.items hs, hi] at hx
    have : del kB three = [(kA, 1), (kC, 3)] := by
      have h1 := klt_ne k_ab
      have h3 := klt_ne k_bc
      simp [del, three, k_ab, klt_asymm k_ab, klt_irrefl, h1, h1.symm, h3, h3.symm]
    rw [this] at hx
    simp at hx
    rcases hx with rfl | rfl
    · exact klt_ne k_ab
    · exact Ne.symm (klt_ne k_bc)
theorem kn_get (t : Tr Int) (W : World) (i : Nat) (k : ByteArray) (v : Int) (hi : items t = three) (hA : AtI W t) (h : three[i]? = some (k, v)) : Calls Try.prog 31 #[.agg #[.pointer (pa t)], .string k] W fun e w' => e = .returned (.tuple #[.int .i64 v, .bool true]) ∧ Below W.heap.size W w' := by
  have hs : Srt (items t) := by rw [hi]; exact srt_three
  obtain ⟨h1, h2⟩ := seek_at hs (i := i) (k := k) (v := v) (by rw [hi]; exact h)
  have := pm_MGetI t k W hA
  rw [h1, h2] at this
  exact this
theorem kn_at (t : Tr Int) (W : World) (hi : items t = three) (hA : AtI W t) : Calls Try.prog 35 #[.agg #[.pointer (pa t)], .int .i64 0] W fun e w' => e = .returned (.tuple #[.string ⟨#[97]⟩, .int .i64 1, .bool true]) ∧ Below W.heap.size W w' := by
  have hz : sz t = 3 := by rw [← sz_items, hi]; rfl
  obtain ⟨h1, h2, h3⟩ := atO_at (t := t) (i := 0) (k := kA) (v := 1) (by rw [hi]; rfl)
  have := pm_MAtI t ((0 : Nat) : Int) W hA (by omega) (by omega) (by rw [hz]; omega)
  rw [h1, h2, h3] at this
  exact this
theorem kn_put (t : Tr Int) (W : World) (hi : items t = three) (hb : Bal t) (hA : AtI W t) : Calls Try.prog 9 #[.agg #[.pointer (pa t)], .string ⟨#[99]⟩, .int .i64 9] W fun e w' => ∃ t', e = .returned (.agg #[.pointer (pa t')]) ∧ (items t' = [(kA, 1), (kB, 2), (kC, 9)] ∧ 1 ≤ sharedNI t t') ∧ AtI w' t' ∧ Below W.heap.size W w' := by
  have hs : Srt (items t) := by rw [hi]; exact srt_three
  have hz : sz t = 3 := by rw [← sz_items, hi]; rfl
  refine (pm_MPutI t kC 9 W.heap.size W (Nat.le_refl _) hA (by rw [hz]; omega)).mono ?_
  rintro e w' ⟨t', hp, rfl, hA', hb'⟩
  refine ⟨t', rfl, ⟨by rw [hp.items hs, hi]; exact ins_three, ?_⟩, hA', hb'⟩
  obtain ⟨b1, b2, b3, rfl⟩ := shape3 t hb hi
  obtain ⟨b, b', rfl⟩ := put3 hp
  exact shared3 _ _ _ _ _
theorem kn_join1 (t : Tr Int) (W : World) (hi : items t = three) (hA : AtI W t) : Calls Try.prog 17 #[.agg #[.pointer (pa t)], .string ⟨#[99]⟩, .int .i64 0, .agg #[.pointer none]] W fun e w' => e = .returned (.tuple #[.agg #[.pointer none], .int .i64 2]) ∧ Below W.heap.size W w' := by
  have hz : sz t = 3 := by rw [← sz_items, hi]; rfl
  refine (pm_JoinI t .nil kC 0 W.heap.size W (Nat.le_refl _) hA trivial (by rw [hz]; simp [sz])).mono ?_
  rintro e w' ⟨t', n, (⟨h1, _⟩ | ⟨_, rfl, rfl⟩), rfl, _, hb⟩
  · exact absurd h1 (join_no1 t hi)
  · exact ⟨rfl, hb⟩
theorem kn_join2 (t : Tr Int) (W : World) (hi : items t = three) (hA : AtI W t) : Calls Try.prog 17 #[.agg #[.pointer none], .string ⟨#[97]⟩, .int .i64 0, .agg #[.pointer (pa t)]] W fun e w' => e = .returned (.tuple #[.agg #[.pointer none], .int .i64 2]) ∧ Below W.heap.size W w' := by
  have hz : sz t = 3 := by rw [← sz_items, hi]; rfl
  refine (pm_JoinI .nil t kA 0 W.heap.size W (Nat.le_refl _) trivial hA (by rw [hz]; simp [sz])).mono ?_
  rintro e w' ⟨t', n, (⟨h1, _⟩ | ⟨_, rfl, rfl⟩), rfl, _, hb⟩
  · exact absurd h1 (join_no2 t hi)
  · exact ⟨rfl, hb⟩
theorem kn_takex (t : Tr Int) (W : World) (hi : items t = three) (hA : AtI W t) : Calls Try.prog 7 #[.agg #[.pointer (pa t)], .string ⟨#[120]⟩] W fun e w' => e = .returned (.agg #[.pointer (pa t)]) ∧ Below W.heap.size W w' := by
  have hz : sz t = 3 := by rw [← sz_items, hi]; rfl
  refine (pm_MTakeI t kX W.heap.size W (Nat.le_refl _) hA (by rw [hz]; omega)).mono ?_
  rintro e w' ⟨t', hh, rfl, hA', hb⟩
  rcases hh with ⟨h1, rfl⟩ | ⟨h1, _⟩
  · exact ⟨rfl, hb⟩
  · exact absurd (seek_x t hi) h1
set_option maxRecDepth 100000 in
set_option maxHeartbeats 8000000 in
theorem lw_known (w : World) : Calls Try.prog 14 #[] w fun e w' => e = .returned (.bool true) ∧ Below w.heap.size w w' := by
  have O1 : Hid (∀ W : World, Below w.heap.size w W → Calls Try.prog 15 #[.slice (some ⟨W.heap.size, 0, none⟩) 3 3, .slice (some ⟨W.heap.size + 1, 0, none⟩) 3 3] ((W.alloc (.cells #[.string ⟨#[98]⟩, .string ⟨#[97]⟩, .string ⟨#[99]⟩] 9)).alloc (.cells #[.int .i64 2, .int .i64 1, .int .i64 3] 3)) fun e w' =>
      ∃ t, e = .returned (.tuple #[.agg #[.pointer (pa t)], .int .i64 0]) ∧ items t = three ∧ Bal t ∧ AtI w' t ∧ Below W.heap.size W w') := Lib.hid (fun W hb => by
    have k0 : CellsAt ((W.alloc (.cells #[.string ⟨#[98]⟩, .string ⟨#[97]⟩, .string ⟨#[99]⟩] 9)).alloc (.cells #[.int .i64 2, .int .i64 1, .int .i64 3] 3)) (some ⟨W.heap.size, 0, none⟩) (kkeysI [(kB, 2), (kA, 1), (kC, 3)]) := (CellsAt.new W 9 (0, 0) [.string ⟨#[98]⟩, .string ⟨#[97]⟩, .string ⟨#[99]⟩]).below (below_new _ _) rfl
    have k1 : CellsAt ((W.alloc (.cells #[.string ⟨#[98]⟩, .string ⟨#[97]⟩, .string ⟨#[99]⟩] 9)).alloc (.cells #[.int .i64 2, .int .i64 1, .int .i64 3] 3)) (some ⟨W.heap.size + 1, 0, none⟩) (kvalsI [(kB, 2), (kA, 1), (kC, 3)]) := by
      have h := CellsAt.new (W.alloc (.cells #[.string ⟨#[98]⟩, .string ⟨#[97]⟩, .string ⟨#[99]⟩] 9)) 3 (0, 0) [.int .i64 2, .int .i64 1, .int .i64 3]
      rw [World.size_alloc] at h
      exact h
    refine (pm_OfI [(kB, 2), (kA, 1), (kC, 3)] _ _ 3 3 _ k0 k1 (by simp)).mono ?_
    rintro e w3 ⟨t, n, hh, rfl, hat, hb3⟩
    rcases hh with ⟨h1, h2, h3, rfl⟩ | ⟨h1, _, _⟩
    · rw [ofL_three] at h1
      exact ⟨t, rfl, (Option.some.inj h1).symm, h2, hat, ((below_new W _).trans ((below_new _ _).mono (by simp))).trans (hb3.mono (by simp; omega))⟩
    · rw [ofL_three] at h1; cases h1)
  have O2 : Hid (∀ W : World, Calls Try.prog 15 #[.slice (some ⟨W.heap.size, 0, none⟩) 2 2, .slice (some ⟨W.heap.size + 1, 0, none⟩) 2 2] ((W.alloc (.cells #[.string ⟨#[97]⟩, .string ⟨#[97]⟩] 9)).alloc (.cells #[.int .i64 1, .int .i64 2] 3)) fun e w' =>
      e = .returned (.tuple #[.agg #[.pointer none], .int .i64 2]) ∧ Below W.heap.size W w') := Lib.hid (fun W => by
    have k0 : CellsAt ((W.alloc (.cells #[.string ⟨#[97]⟩, .string ⟨#[97]⟩] 9)).alloc (.cells #[.int .i64 1, .int .i64 2] 3)) (some ⟨W.heap.size, 0, none⟩) (kkeysI [(kA, 1), (kA, 2)]) := (CellsAt.new W 9 (0, 0) [.string ⟨#[97]⟩, .string ⟨#[97]⟩]).below (below_new _ _) rfl
    have k1 : CellsAt ((W.alloc (.cells #[.string ⟨#[97]⟩, .string ⟨#[97]⟩] 9)).alloc (.cells #[.int .i64 1, .int .i64 2] 3)) (some ⟨W.heap.size + 1, 0, none⟩) (kvalsI [(kA, 1), (kA, 2)]) := by
      have h := CellsAt.new (W.alloc (.cells #[.string ⟨#[97]⟩, .string ⟨#[97]⟩] 9)) 3 (0, 0) [.int .i64 1, .int .i64 2]
      rw [World.size_alloc] at h
      exact h
    refine (pm_OfI [(kA, 1), (kA, 2)] _ _ 2 2 _ k0 k1 (by simp)).mono ?_
    rintro e w3 ⟨t, n, hh, rfl, hat, hb3⟩
    rcases hh with ⟨h1, _⟩ | ⟨h1, rfl, rfl⟩
    · rw [ofL_two] at h1; cases h1
    · exact ⟨rfl, ((below_new W _).trans ((below_new _ _).mono (by simp))).trans (hb3.mono (by simp; omega))⟩)
  go_enter Try.func14, Try.ntmps14
  go_wp2_with fail
  refine (O1.out w (Below.refl _ _)).mono ?_
  rintro e w1 ⟨t, rfl, hi, hbal, hat, hb⟩
  have HI := Lib.hid hi
  have HBL := Lib.hid hbal
  have HA := Lib.hid hat
  have D1 := Lib.hid hb
  clear hi hbal hat hb O1
  go_wp2_with fail
  obtain ⟨c, hc⟩ : ∃ c, w1.heap.size = c := ⟨_, rfl⟩
  obtain ⟨W2, hW2⟩ : ∃ W2, w1.alloc (.cells #[.pointer (pa t)] 26) = W2 := ⟨_, rfl⟩
  have z2 : W2.heap.size = c + 1 := by rw [← hW2, ← hc]; simp
  have x2 : W2.heap[c]? = some (.cells #[.pointer (pa t)] 26 (0, 0)) := by rw [← hW2, ← hc]; exact heap_alloc_new w1 _
  have hb2 : Below w1.heap.size w1 W2 := by rw [← hW2]; exact below_new _ _
  have D2 : Hid (Below w.heap.size w W2) := Lib.hid (D1.out.trans (hb2.mono D1.out.size))
  have A2 := Lib.hid (HA.out.below hb2 rfl)
  have o2 := O2.out W2
  rw [z2] at o2
  rw [hc, hW2]
  clear hW2 hb2 HA D1 O2 hc
  refine o2.mono ?_
  clear o2
  rintro e w3 ⟨rfl, hb⟩
  rw [← z2] at hb
  have D3 : Hid (Below w.heap.size w w3) := Lib.hid (D2.out.trans (hb.mono D2.out.size))
  have A3 := Lib.hid (A2.out.below hb rfl)
  have X3 := Lib.hid (boxStays x2 hb)
  clear hb A2 D2 x2 z2
  have e4 := cell_of_one (boxStays X3.out (below_new w3 (.cells #[.pointer none] 26)))
  go_wp2_with fail
  have BN := below_new w3 (.cells #[.pointer none] 26)
  have AN := A3.out.below BN rfl
  refine (kn_take t _ HI.out AN).mono ?_
  rintro e w4 ⟨t4, rfl, hs4, h4, hb⟩
  replace hb := BN.trans (hb.mono (by simp))
  have D4 : Hid (Below w.heap.size w w4) := Lib.hid (D3.out.trans (hb.mono D3.out.size))
  have A4 := Lib.hid (A3.out.below hb rfl)
  have X4 := Lib.hid (boxStays X3.out hb)
  have g4 := pm_MGetI t4 kB w4 h4
  rw [hs4] at g4
  clear hs4 h4
  clear hb A3 D3 X3 e4 BN AN
  have e4 := cell_of_one X4.out
  go_wp2_with fail
  simp only [valOr, isNI] at g4
  refine Calls.mono g4 ?_
  rintro e w5 ⟨rfl, hb⟩
  have D5 : Hid (Below w.heap.size w w5) := Lib.hid (D4.out.trans (hb.mono D4.out.size))
  have A5 := Lib.hid (A4.out.below hb rfl)
  have X5 := Lib.hid (boxStays X4.out hb)
  clear hb A4 D4 X4 e4 g4
  have e4 := cell_of_one X5.out
  go_wp2_with fail
  refine (kn_get t _ 1 kB 2 HI.out A5.out rfl).mono ?_
  rintro e w6 ⟨rfl, hb⟩
  have D6 : Hid (Below w.heap.size w w6) := Lib.hid (D5.out.trans (hb.mono D5.out.size))
  have A6 := Lib.hid (A5.out.below hb rfl)
  have X6 := Lib.hid (boxStays X5.out hb)
  clear hb A5 D5 X5 e4
  have e4 := cell_of_one X6.out
  go_wp2_with fail
  refine (kn_at t _ HI.out A6.out).mono ?_
  rintro e w7 ⟨rfl, hb⟩
  have D7 : Hid (Below w.heap.size w w7) := Lib.hid (D6.out.trans (hb.mono D6.out.size))
  have A7 := Lib.hid (A6.out.below hb rfl)
  have X7 := Lib.hid (boxStays X6.out hb)
  clear hb A6 D6 X6 e4
  have e4 := cell_of_one X7.out
  go_wp2_with fail
  refine (kn_put t _ HI.out HBL.out A7.out).mono ?_
  rintro e w8 ⟨n, rfl, hn, hAn, hb⟩
  have D8 : Hid (Below w.heap.size w w8) := Lib.hid (D7.out.trans (hb.mono D7.out.size))
  have A8 := Lib.hid (A7.out.below hb rfl)
  have X8 := Lib.hid (boxStays X7.out hb)
  have HNI := Lib.hid hn
  clear hn
  clear hb A7 D7 X7 e4
  obtain ⟨W9, hW9⟩ : ∃ W9, w8.alloc (.cells #[.pointer (pa n)] 26) = W9 := ⟨_, rfl⟩
  have hb9 : Below w8.heap.size w8 W9 := by rw [← hW9]; exact below_new _ _
  have XN : Hid (W9.heap[w8.heap.size]? = some (.cells #[.pointer (pa n)] 26 (0, 0))) := Lib.hid (by rw [← hW9]; exact heap_alloc_new w8 _)
  have AN9 := Lib.hid (hAn.below hb9 rfl)
  have D9 : Hid (Below w.heap.size w W9) := Lib.hid (D8.out.trans (hb9.mono D8.out.size))
  have A9 := Lib.hid (A8.out.below hb9 rfl)
  have X9 := Lib.hid (boxStays X8.out hb9)
  clear hb9 A8 D8 hAn
  have e4 := cell_of_one X8.out
  obtain ⟨cn, hcn⟩ : ∃ cn, w8.heap.size = cn := ⟨_, rfl⟩
  rw [hcn] at XN
  have e5 := cell_of_one XN.out
  have SN : Hid (Srt (items n)) := Lib.hid (by rw [HNI.out.1, ← ins_three]; exact ins_srt srt_three)
  go_wp2_with fail
  clear hW9 hcn X8 e4 e5
  have gN := pm_MGetI n kC W9 AN9.out
  rw [(seek_at SN.out (i := 2) (k := kC) (v := 9) (by rw [HNI.out.1]; rfl)).1, (seek_at SN.out (i := 2) (k := kC) (v := 9) (by rw [HNI.out.1]; rfl)).2] at gN
  refine Calls.mono (gN) ?_
  rintro e w10 ⟨rfl, hb⟩
  have D10 : Hid (Below w.heap.size w w10) := Lib.hid (D9.out.trans (hb.mono D9.out.size))
  have A10 := Lib.hid (A9.out.below hb rfl)
  have X10 := Lib.hid (boxStays X9.out hb)
  have AN10 := Lib.hid (AN9.out.below hb rfl)
  have XN10 := Lib.hid (boxStays XN.out hb)
  clear hb A9 D9 X9 AN9 XN gN
  have e4 := cell_of_one X10.out
  go_wp2_with fail
  refine Calls.mono (kn_get t _ 2 kC 3 HI.out A10.out rfl) ?_
  rintro e w11 ⟨rfl, hb⟩
  have D11 : Hid (Below w.heap.size w w11) := Lib.hid (D10.out.trans (hb.mono D10.out.size))
  have A11 := Lib.hid (A10.out.below hb rfl)
  have X11 := Lib.hid (boxStays X10.out hb)
  have AN11 := Lib.hid (AN10.out.below hb rfl)
  have XN11 := Lib.hid (boxStays XN10.out hb)
  clear hb A10 D10 X10 AN10 XN10 e4
  have e4 := cell_of_one X11.out
  go_wp2_with fail
  refine Calls.mono (kn_join1 t _ HI.out A11.out) ?_
  rintro e w12 ⟨rfl, hb⟩
  have D12 : Hid (Below w.heap.size w w12) := Lib.hid (D11.out.trans (hb.mono D11.out.size))
  have A12 := Lib.hid (A11.out.below hb rfl)
  have X12 := Lib.hid (boxStays X11.out hb)
  have AN12 := Lib.hid (AN11.out.below hb rfl)
  have XN12 := Lib.hid (boxStays XN11.out hb)
  clear hb A11 D11 X11 AN11 XN11 e4
  have e4 := cell_of_one (boxStays X12.out (below_new w12 (.cells #[.pointer none] 26)))
  go_wp2_with fail
  have BN := below_new w12 (.cells #[.pointer none] 26)
  have AN := A12.out.below BN rfl
  refine Calls.mono (kn_join2 t _ HI.out AN) ?_
  rintro e w13 ⟨rfl, hb⟩
  replace hb := BN.trans (hb.mono (by simp))
  have D13 : Hid (Below w.heap.size w w13) := Lib.hid (D12.out.trans (hb.mono D12.out.size))
  have A13 := Lib.hid (A12.out.below hb rfl)
  have X13 := Lib.hid (boxStays X12.out hb)
  have AN13 := Lib.hid (AN12.out.below hb rfl)
  have XN13 := Lib.hid (boxStays XN12.out hb)
  clear hb A12 D12 X12 AN12 XN12 BN AN e4
  go_wp2_with fail
  obtain ⟨W14, hW14⟩ : ∃ W14, w13.alloc (.cells #[.pointer none] 26) = W14 := ⟨_, rfl⟩
  rw [hW14]
  have hb := below_new w13 (.cells #[.pointer none] 26)
  rw [hW14] at hb
  clear hW14
  have D14 : Hid (Below w.heap.size w W14) := Lib.hid (D13.out.trans (hb.mono D13.out.size))
  have A14 := Lib.hid (A13.out.below hb rfl)
  have X14 := Lib.hid (boxStays X13.out hb)
  have AN14 := Lib.hid (AN13.out.below hb rfl)
  have XN14 := Lib.hid (boxStays XN13.out hb)
  clear hb A13 D13 X13 AN13 XN13
  obtain ⟨q, hq⟩ : ∃ q, sharedNI t n = q := ⟨_, rfl⟩
  have hq1 : (1 : Int) ≤ (q : Int) := by have := HNI.out.2; omega
  have HQ := Lib.hid hq
  clear hq
  have SZ : Hid (ht t = 2 ∧ sz t = 3) := Lib.hid (ht_three t HBL.out HI.out)
  have S14 : Hid (w.heap.size ≤ W14.heap.size) := Lib.hid D14.out.size
  have HC : Hid (Chain [W14] W14) := Lib.hid (Chain.one W14)
  simp only [List.append]
  refine wp_region_noPanic ?_
  refine wp_region_held_drew (S := fun w' => Below W14.heap.size W14 w') (by kernel_rfl) (Below.refl _ _).drew (fun hS => ?_)
  refine wpAnyH_take (i := 0) (oi := ⟨some 74, _, _, _, _, _⟩) (v := ?_) rfl (by kernel_rfl) (by kernel_rfl) (by kernel_rfl) (fun _ _ _ h => h) (Or.inl ⟨by rfl, ?_⟩) hS ?_
  rotate_left 1
  · intro w' hB; have hd := (HC.out.to W14 (by simp)).trans (hB.mono (HC.out.to W14 (by simp)).size); have e4 := cell_of_one (boxStays X14.out hd); have e5 := cell_of_one (boxStays XN14.out hd); clear hd; have hq1 := hq1; (go_simp <;> with_reducible rfl)
  try simp only [Act.put, List.setIfInBounds_toArray, List.set_cons_zero, List.set_cons_succ]
  refine wpAnyH_take (i := 1) (oi := ⟨some 75, _, _, _, _, _⟩) (v := ?_) rfl (by kernel_rfl) (by kernel_rfl) (by kernel_rfl) (fun _ _ _ h => h) (Or.inl ⟨by rfl, ?_⟩) hS ?_
  rotate_left 1
  · intro w' hB; have hd := (HC.out.to W14 (by simp)).trans (hB.mono (HC.out.to W14 (by simp)).size); have e4 := cell_of_one (boxStays X14.out hd); have e5 := cell_of_one (boxStays XN14.out hd); clear hd; have hq1 := hq1; (go_simp <;> with_reducible rfl)
  try simp only [Act.put, List.setIfInBounds_toArray, List.set_cons_zero, List.set_cons_succ]
  refine wpAnyH_take (i := 2) (oi := ⟨some 76, _, _, _, _, _⟩) (v := ?_) rfl (by kernel_rfl) (by kernel_rfl) (by kernel_rfl) (fun _ _ _ h => h) (Or.inl ⟨by rfl, ?_⟩) hS ?_
  rotate_left 1
  · intro w' hB; have hd := (HC.out.to W14 (by simp)).trans (hB.mono (HC.out.to W14 (by simp)).size); have e4 := cell_of_one (boxStays X14.out hd); have e5 := cell_of_one (boxStays XN14.out hd); clear hd; have hq1 := hq1; (go_simp <;> with_reducible rfl)
  try simp only [Act.put, List.setIfInBounds_toArray, List.set_cons_zero, List.set_cons_succ]
  refine wpAnyH_take (i := 3) (oi := ⟨some 77, _, _, _, _, _⟩) (v := ?_) rfl (by kernel_rfl) (by kernel_rfl) (by kernel_rfl) (fun _ _ _ h => h) (Or.inl ⟨by rfl, ?_⟩) hS ?_
  rotate_left 1
  · intro w' hB; have hd := (HC.out.to W14 (by simp)).trans (hB.mono (HC.out.to W14 (by simp)).size); have e4 := cell_of_one (boxStays X14.out hd); have e5 := cell_of_one (boxStays XN14.out hd); clear hd; have hq1 := hq1; (go_simp <;> with_reducible rfl)
  try simp only [Act.put, List.setIfInBounds_toArray, List.set_cons_zero, List.set_cons_succ]
  refine wpAnyH_take (i := 4) (oi := ⟨some 78, _, _, _, _, _⟩) (v := ?_) rfl (by kernel_rfl) (by kernel_rfl) (by kernel_rfl) (fun _ _ _ h => h) (Or.inl ⟨by rfl, ?_⟩) hS ?_
  rotate_left 1
  · intro w' hB; have hd := (HC.out.to W14 (by simp)).trans (hB.mono (HC.out.to W14 (by simp)).size); have e4 := cell_of_one (boxStays X14.out hd); have e5 := cell_of_one (boxStays XN14.out hd); clear hd; have hq1 := hq1; (go_simp <;> with_reducible rfl)
  try simp only [Act.put, List.setIfInBounds_toArray, List.set_cons_zero, List.set_cons_succ]
  refine wpAnyH_take (i := 5) (oi := ⟨some 79, _, _, _, _, _⟩) (v := ?_) rfl (by kernel_rfl) (by kernel_rfl) (by kernel_rfl) (fun _ _ _ h => h) (Or.inl ⟨by rfl, ?_⟩) hS ?_
  rotate_left 1
  · intro w' hB; have hd := (HC.out.to W14 (by simp)).trans (hB.mono (HC.out.to W14 (by simp)).size); have e4 := cell_of_one (boxStays X14.out hd); have e5 := cell_of_one (boxStays XN14.out hd); clear hd; have hq1 := hq1; (go_simp <;> with_reducible rfl)
  try simp only [Act.put, List.setIfInBounds_toArray, List.set_cons_zero, List.set_cons_succ]
  refine wpAnyH_take (i := 6) (oi := ⟨some 80, _, _, _, _, _⟩) (v := ?_) rfl (by kernel_rfl) (by kernel_rfl) (by kernel_rfl) (fun _ _ _ h => h) (Or.inl ⟨by rfl, ?_⟩) hS ?_
  rotate_left 1
  · intro w' hB; have hd := (HC.out.to W14 (by simp)).trans (hB.mono (HC.out.to W14 (by simp)).size); have e4 := cell_of_one (boxStays X14.out hd); have e5 := cell_of_one (boxStays XN14.out hd); clear hd; have hq1 := hq1; (go_simp <;> with_reducible rfl)
  try simp only [Act.put, List.setIfInBounds_toArray, List.set_cons_zero, List.set_cons_succ]
  refine wpAnyH_take (i := 7) (oi := ⟨some 81, _, _, _, _, _⟩) (v := ?_) rfl (by kernel_rfl) (by kernel_rfl) (by kernel_rfl) (fun _ _ _ h => h) (Or.inl ⟨by rfl, ?_⟩) hS ?_
  rotate_left 1
  · intro w' hB; have hd := (HC.out.to W14 (by simp)).trans (hB.mono (HC.out.to W14 (by simp)).size); have e4 := cell_of_one (boxStays X14.out hd); have e5 := cell_of_one (boxStays XN14.out hd); clear hd; have hq1 := hq1; (go_simp <;> with_reducible rfl)
  try simp only [Act.put, List.setIfInBounds_toArray, List.set_cons_zero, List.set_cons_succ]
  refine wpAnyH_take (i := 8) (oi := ⟨some 82, _, _, _, _, _⟩) (v := ?_) rfl (by kernel_rfl) (by kernel_rfl) (by kernel_rfl) (fun _ _ _ h => h) (Or.inl ⟨by rfl, ?_⟩) hS ?_
  rotate_left 1
  · intro w' hB; have hd := (HC.out.to W14 (by simp)).trans (hB.mono (HC.out.to W14 (by simp)).size); have e4 := cell_of_one (boxStays X14.out hd); have e5 := cell_of_one (boxStays XN14.out hd); clear hd; have hq1 := hq1; (go_simp <;> with_reducible rfl)
  try simp only [Act.put, List.setIfInBounds_toArray, List.set_cons_zero, List.set_cons_succ]
  refine wpAnyH_take (i := 9) (oi := ⟨some 83, _, _, _, _, _⟩) (v := ?_) rfl (by kernel_rfl) (by kernel_rfl) (by kernel_rfl) (fun _ _ _ h => h) (Or.inl ⟨by rfl, ?_⟩) hS ?_
  rotate_left 1
  · intro w' hB; have hd := (HC.out.to W14 (by simp)).trans (hB.mono (HC.out.to W14 (by simp)).size); have e4 := cell_of_one (boxStays X14.out hd); have e5 := cell_of_one (boxStays XN14.out hd); clear hd; have hq1 := hq1; (go_simp <;> with_reducible rfl)
  try simp only [Act.put, List.setIfInBounds_toArray, List.set_cons_zero, List.set_cons_succ]
  refine wpAnyH_take (i := 10) (oi := ⟨some 84, _, _, _, _, _⟩) (v := ?_) rfl (by kernel_rfl) (by kernel_rfl) (by kernel_rfl) (fun _ _ _ h => h) (Or.inl ⟨by rfl, ?_⟩) hS ?_
  rotate_left 1
  · intro w' hB; have hd := (HC.out.to W14 (by simp)).trans (hB.mono (HC.out.to W14 (by simp)).size); have e4 := cell_of_one (boxStays X14.out hd); have e5 := cell_of_one (boxStays XN14.out hd); clear hd; have hq1 := hq1; (go_simp <;> with_reducible rfl)
  try simp only [Act.put, List.setIfInBounds_toArray, List.set_cons_zero, List.set_cons_succ]
  refine wpAnyH_take (i := 11) (oi := ⟨some 85, _, _, _, _, _⟩) (v := ?_) rfl (by kernel_rfl) (by kernel_rfl) (by kernel_rfl) (fun _ _ _ h => h) (Or.inl ⟨by rfl, ?_⟩) hS ?_
  rotate_left 1
  · intro w' hB; have hd := (HC.out.to W14 (by simp)).trans (hB.mono (HC.out.to W14 (by simp)).size); have e4 := cell_of_one (boxStays X14.out hd); have e5 := cell_of_one (boxStays XN14.out hd); clear hd; have hq1 := hq1; (go_simp <;> with_reducible rfl)
  try simp only [Act.put, List.setIfInBounds_toArray, List.set_cons_zero, List.set_cons_succ]
  refine wpAnyH_take (i := 12) (oi := ⟨some 86, _, _, _, _, _⟩) (v := ?_) rfl (by kernel_rfl) (by kernel_rfl) (by kernel_rfl) (fun _ _ _ h => h) (Or.inl ⟨by rfl, ?_⟩) hS ?_
  rotate_left 1
  · intro w' hB; have hd := (HC.out.to W14 (by simp)).trans (hB.mono (HC.out.to W14 (by simp)).size); have e4 := cell_of_one (boxStays X14.out hd); have e5 := cell_of_one (boxStays XN14.out hd); clear hd; have hq1 := hq1; (go_simp <;> with_reducible rfl)
  try simp only [Act.put, List.setIfInBounds_toArray, List.set_cons_zero, List.set_cons_succ]
  refine wpAnyH_take (i := 13) (oi := ⟨some 87, _, _, _, _, _⟩) (v := ?_) rfl (by kernel_rfl) (by kernel_rfl) (by kernel_rfl) (fun _ _ _ h => h) (Or.inl ⟨by rfl, ?_⟩) hS ?_
  rotate_left 1
  · intro w' hB; have hd := (HC.out.to W14 (by simp)).trans (hB.mono (HC.out.to W14 (by simp)).size); have e4 := cell_of_one (boxStays X14.out hd); have e5 := cell_of_one (boxStays XN14.out hd); clear hd; have hq1 := hq1; (go_simp <;> with_reducible rfl)
  try simp only [Act.put, List.setIfInBounds_toArray, List.set_cons_zero, List.set_cons_succ]
  refine wpAnyH_take (i := 14) (oi := ⟨some 88, _, _, _, _, _⟩) (v := ?_) rfl (by kernel_rfl) (by kernel_rfl) (by kernel_rfl) (fun _ _ _ h => h) (Or.inl ⟨by rfl, ?_⟩) hS ?_
  rotate_left 1
  · intro w' hB; have hd := (HC.out.to W14 (by simp)).trans (hB.mono (HC.out.to W14 (by simp)).size); have e4 := cell_of_one (boxStays X14.out hd); have e5 := cell_of_one (boxStays XN14.out hd); clear hd; have hq1 := hq1; (go_simp <;> with_reducible rfl)
  try simp only [Act.put, List.setIfInBounds_toArray, List.set_cons_zero, List.set_cons_succ]
  refine wpAnyH_take (i := 15) (oi := ⟨some 89, _, _, _, _, _⟩) (v := ?_) rfl (by kernel_rfl) (by kernel_rfl) (by kernel_rfl) (fun _ _ _ h => h) (Or.inl ⟨by rfl, ?_⟩) hS ?_
  rotate_left 1
  · intro w' hB; have hd := (HC.out.to W14 (by simp)).trans (hB.mono (HC.out.to W14 (by simp)).size); have e4 := cell_of_one (boxStays X14.out hd); have e5 := cell_of_one (boxStays XN14.out hd); clear hd; have hq1 := hq1; (go_simp <;> with_reducible rfl)
  try simp only [Act.put, List.setIfInBounds_toArray, List.set_cons_zero, List.set_cons_succ]
  refine wpAnyH_ready (rs := [16]) (by kernel_rfl) (by simp) (AllReadyH.cons (o := ⟨some 90, _, _, _, _, _⟩) rfl (fun K hK => ?_) AllReadyH.nil)
  go_simp
  refine (pm_MLenI t _ (A14.out.chain HC.out hS (by simp))).mono ?_
  rintro e w15 ⟨rfl, hb⟩
  refine hK.out _ _ (hS.trans (hb.mono hS.size)) (fun _ => ?_)
  clear hK K
  have hB := hS.trans (hb.mono hS.size)
  refine wpAnyH_now hB ?_
  clear hS
  have hS := Below.refl w15.heap.size w15
  replace HC := Lib.hid (HC.out.push hB)
  rw [SZ.out.2]
  clear hB hb
  try simp only [Act.put, List.setIfInBounds_toArray, List.set_cons_zero, List.set_cons_succ]
  refine wpAnyH_take (i := 17) (oi := ⟨some 91, _, _, _, _, _⟩) (v := ?_) rfl (by kernel_rfl) (by kernel_rfl) (by kernel_rfl) (fun _ _ _ h => h) (Or.inl ⟨by rfl, ?_⟩) hS ?_
  rotate_left 1
  · intro w' hB; have hd := (HC.out.to W14 (by simp)).trans (hB.mono (HC.out.to W14 (by simp)).size); have e4 := cell_of_one (boxStays X14.out hd); have e5 := cell_of_one (boxStays XN14.out hd); clear hd; have hq1 := hq1; (go_simp <;> with_reducible rfl)
  try simp only [Act.put, List.setIfInBounds_toArray, List.set_cons_zero, List.set_cons_succ]
  refine wpAnyH_take (i := 18) (oi := ⟨some 92, _, _, _, _, _⟩) (v := ?_) rfl (by kernel_rfl) (by kernel_rfl) (by kernel_rfl) (fun _ _ _ h => h) (Or.inl ⟨by rfl, ?_⟩) hS ?_
  rotate_left 1
  · intro w' hB; have hd := (HC.out.to W14 (by simp)).trans (hB.mono (HC.out.to W14 (by simp)).size); have e4 := cell_of_one (boxStays X14.out hd); have e5 := cell_of_one (boxStays XN14.out hd); clear hd; have hq1 := hq1; (go_simp <;> with_reducible rfl)
  try simp only [Act.put, List.setIfInBounds_toArray, List.set_cons_zero, List.set_cons_succ]
  refine wpAnyH_take (i := 19) (oi := ⟨some 93, _, _, _, _, _⟩) (v := ?_) rfl (by kernel_rfl) (by kernel_rfl) (by kernel_rfl) (fun _ _ _ h => h) (Or.inl ⟨by rfl, ?_⟩) hS ?_
  rotate_left 1
  · intro w' hB; have hd := (HC.out.to W14 (by simp)).trans (hB.mono (HC.out.to W14 (by simp)).size); have e4 := cell_of_one (boxStays X14.out hd); have e5 := cell_of_one (boxStays XN14.out hd); clear hd; have hq1 := hq1; (go_simp <;> with_reducible rfl)
  try simp only [Act.put, List.setIfInBounds_toArray, List.set_cons_zero, List.set_cons_succ]
  refine wpAnyH_take (i := 20) (oi := ⟨some 94, _, _, _, _, _⟩) (v := ?_) rfl (by kernel_rfl) (by kernel_rfl) (by kernel_rfl) (fun _ _ _ h => h) (Or.inl ⟨by rfl, ?_⟩) hS ?_
  rotate_left 1
  · intro w' hB; have hd := (HC.out.to W14 (by simp)).trans (hB.mono (HC.out.to W14 (by simp)).size); have e4 := cell_of_one (boxStays X14.out hd); have e5 := cell_of_one (boxStays XN14.out hd); clear hd; have hq1 := hq1; (go_simp <;> with_reducible rfl)
  try simp only [Act.put, List.setIfInBounds_toArray, List.set_cons_zero, List.set_cons_succ]
  refine wpAnyH_ready (rs := [21]) (by kernel_rfl) (by simp) (AllReadyH.cons (o := ⟨some 95, _, _, _, _, _⟩) rfl (fun K hK => ?_) AllReadyH.nil)
  go_simp
  refine (pm_MHeightI t _ (A14.out.chain HC.out hS (by simp))).mono ?_
  rintro e w16 ⟨rfl, hb⟩
  refine hK.out _ _ (hS.trans (hb.mono hS.size)) (fun _ => ?_)
  clear hK K
  have hB := hS.trans (hb.mono hS.size)
  refine wpAnyH_now hB ?_
  clear hS
  have hS := Below.refl w16.heap.size w16
  replace HC := Lib.hid (HC.out.push hB)
  rw [SZ.out.1]
  clear hB hb
  try simp only [Act.put, List.setIfInBounds_toArray, List.set_cons_zero, List.set_cons_succ]
  refine wpAnyH_take (i := 22) (oi := ⟨some 96, _, _, _, _, _⟩) (v := ?_) rfl (by kernel_rfl) (by kernel_rfl) (by kernel_rfl) (fun _ _ _ h => h) (Or.inl ⟨by rfl, ?_⟩) hS ?_
  rotate_left 1
  · intro w' hB; have hd := (HC.out.to W14 (by simp)).trans (hB.mono (HC.out.to W14 (by simp)).size); have e4 := cell_of_one (boxStays X14.out hd); have e5 := cell_of_one (boxStays XN14.out hd); clear hd; have hq1 := hq1; (go_simp <;> with_reducible rfl)
  try simp only [Act.put, List.setIfInBounds_toArray, List.set_cons_zero, List.set_cons_succ]
  refine wpAnyH_take (i := 23) (oi := ⟨some 97, _, _, _, _, _⟩) (v := ?_) rfl (by kernel_rfl) (by kernel_rfl) (by kernel_rfl) (fun _ _ _ h => h) (Or.inl ⟨by rfl, ?_⟩) hS ?_
  rotate_left 1
  · intro w' hB; have hd := (HC.out.to W14 (by simp)).trans (hB.mono (HC.out.to W14 (by simp)).size); have e4 := cell_of_one (boxStays X14.out hd); have e5 := cell_of_one (boxStays XN14.out hd); clear hd; have hq1 := hq1; (go_simp <;> with_reducible rfl)
  try simp only [Act.put, List.setIfInBounds_toArray, List.set_cons_zero, List.set_cons_succ]
  refine wpAnyH_take (i := 24) (oi := ⟨some 98, _, _, _, _, _⟩) (v := ?_) rfl (by kernel_rfl) (by kernel_rfl) (by kernel_rfl) (fun _ _ _ h => h) (Or.inl ⟨by rfl, ?_⟩) hS ?_
  rotate_left 1
  · intro w' hB; have hd := (HC.out.to W14 (by simp)).trans (hB.mono (HC.out.to W14 (by simp)).size); have e4 := cell_of_one (boxStays X14.out hd); have e5 := cell_of_one (boxStays XN14.out hd); clear hd; have hq1 := hq1; (go_simp <;> with_reducible rfl)
  try simp only [Act.put, List.setIfInBounds_toArray, List.set_cons_zero, List.set_cons_succ]
  refine wpAnyH_take (i := 25) (oi := ⟨some 99, _, _, _, _, _⟩) (v := ?_) rfl (by kernel_rfl) (by kernel_rfl) (by kernel_rfl) (fun _ _ _ h => h) (Or.inl ⟨by rfl, ?_⟩) hS ?_
  rotate_left 1
  · intro w' hB; have hd := (HC.out.to W14 (by simp)).trans (hB.mono (HC.out.to W14 (by simp)).size); have e4 := cell_of_one (boxStays X14.out hd); have e5 := cell_of_one (boxStays XN14.out hd); clear hd; have hq1 := hq1; (go_simp <;> with_reducible rfl)
  try simp only [Act.put, List.setIfInBounds_toArray, List.set_cons_zero, List.set_cons_succ]
  refine wpAnyH_take (i := 26) (oi := ⟨some 100, _, _, _, _, _⟩) (v := ?_) rfl (by kernel_rfl) (by kernel_rfl) (by kernel_rfl) (fun _ _ _ h => h) (Or.inl ⟨by rfl, ?_⟩) hS ?_
  rotate_left 1
  · intro w' hB; have hd := (HC.out.to W14 (by simp)).trans (hB.mono (HC.out.to W14 (by simp)).size); have e4 := cell_of_one (boxStays X14.out hd); have e5 := cell_of_one (boxStays XN14.out hd); clear hd; have hq1 := hq1; (go_simp <;> with_reducible rfl)
  try simp only [Act.put, List.setIfInBounds_toArray, List.set_cons_zero, List.set_cons_succ]
  refine wpAnyH_take (i := 27) (oi := ⟨some 101, _, _, _, _, _⟩) (v := ?_) rfl (by kernel_rfl) (by kernel_rfl) (by kernel_rfl) (fun _ _ _ h => h) (Or.inl ⟨by rfl, ?_⟩) hS ?_
  rotate_left 1
  · intro w' hB; have hd := (HC.out.to W14 (by simp)).trans (hB.mono (HC.out.to W14 (by simp)).size); have e4 := cell_of_one (boxStays X14.out hd); have e5 := cell_of_one (boxStays XN14.out hd); clear hd; have hq1 := hq1; (go_simp <;> with_reducible rfl)
  try simp only [Act.put, List.setIfInBounds_toArray, List.set_cons_zero, List.set_cons_succ]
  refine wpAnyH_take (i := 28) (oi := ⟨some 102, _, _, _, _, _⟩) (v := ?_) rfl (by kernel_rfl) (by kernel_rfl) (by kernel_rfl) (fun _ _ _ h => h) (Or.inl ⟨by rfl, ?_⟩) hS ?_
  rotate_left 1
  · intro w' hB; have hd := (HC.out.to W14 (by simp)).trans (hB.mono (HC.out.to W14 (by simp)).size); have e4 := cell_of_one (boxStays X14.out hd); have e5 := cell_of_one (boxStays XN14.out hd); clear hd; have hq1 := hq1; (go_simp <;> with_reducible rfl)
  try simp only [Act.put, List.setIfInBounds_toArray, List.set_cons_zero, List.set_cons_succ]
  refine wpAnyH_take (i := 29) (oi := ⟨some 103, _, _, _, _, _⟩) (v := ?_) rfl (by kernel_rfl) (by kernel_rfl) (by kernel_rfl) (fun _ _ _ h => h) (Or.inl ⟨by rfl, ?_⟩) hS ?_
  rotate_left 1
  · intro w' hB; have hd := (HC.out.to W14 (by simp)).trans (hB.mono (HC.out.to W14 (by simp)).size); have e4 := cell_of_one (boxStays X14.out hd); have e5 := cell_of_one (boxStays XN14.out hd); clear hd; have hq1 := hq1; (go_simp <;> with_reducible rfl)
  try simp only [Act.put, List.setIfInBounds_toArray, List.set_cons_zero, List.set_cons_succ]
  refine wpAnyH_take (i := 30) (oi := ⟨some 104, _, _, _, _, _⟩) (v := ?_) rfl (by kernel_rfl) (by kernel_rfl) (by kernel_rfl) (fun _ _ _ h => h) (Or.inl ⟨by rfl, ?_⟩) hS ?_
  rotate_left 1
  · intro w' hB; have hd := (HC.out.to W14 (by simp)).trans (hB.mono (HC.out.to W14 (by simp)).size); have e4 := cell_of_one (boxStays X14.out hd); have e5 := cell_of_one (boxStays XN14.out hd); clear hd; have hq1 := hq1; (go_simp <;> with_reducible rfl)
  try simp only [Act.put, List.setIfInBounds_toArray, List.set_cons_zero, List.set_cons_succ]
  refine wpAnyH_take (i := 31) (oi := ⟨some 105, _, _, _, _, _⟩) (v := ?_) rfl (by kernel_rfl) (by kernel_rfl) (by kernel_rfl) (fun _ _ _ h => h) (Or.inl ⟨by rfl, ?_⟩) hS ?_
  rotate_left 1
  · intro w' hB; have hd := (HC.out.to W14 (by simp)).trans (hB.mono (HC.out.to W14 (by simp)).size); have e4 := cell_of_one (boxStays X14.out hd); have e5 := cell_of_one (boxStays XN14.out hd); clear hd; have hq1 := hq1; (go_simp <;> with_reducible rfl)
  try simp only [Act.put, List.setIfInBounds_toArray, List.set_cons_zero, List.set_cons_succ]
  refine wpAnyH_take (i := 32) (oi := ⟨some 106, _, _, _, _, _⟩) (v := ?_) rfl (by kernel_rfl) (by kernel_rfl) (by kernel_rfl) (fun _ _ _ h => h) (Or.inl ⟨by rfl, ?_⟩) hS ?_
  rotate_left 1
  · intro w' hB; have hd := (HC.out.to W14 (by simp)).trans (hB.mono (HC.out.to W14 (by simp)).size); have e4 := cell_of_one (boxStays X14.out hd); have e5 := cell_of_one (boxStays XN14.out hd); clear hd; have hq1 := hq1; (go_simp <;> with_reducible rfl)
  try simp only [Act.put, List.setIfInBounds_toArray, List.set_cons_zero, List.set_cons_succ]
  refine wpAnyH_take (i := 33) (oi := ⟨some 107, _, _, _, _, _⟩) (v := ?_) rfl (by kernel_rfl) (by kernel_rfl) (by kernel_rfl) (fun _ _ _ h => h) (Or.inl ⟨by rfl, ?_⟩) hS ?_
  rotate_left 1
  · intro w' hB; have hd := (HC.out.to W14 (by simp)).trans (hB.mono (HC.out.to W14 (by simp)).size); have e4 := cell_of_one (boxStays X14.out hd); have e5 := cell_of_one (boxStays XN14.out hd); clear hd; have hq1 := hq1; (go_simp <;> with_reducible rfl)
  try simp only [Act.put, List.setIfInBounds_toArray, List.set_cons_zero, List.set_cons_succ]
  refine wpAnyH_take (i := 34) (oi := ⟨some 108, _, _, _, _, _⟩) (v := ?_) rfl (by kernel_rfl) (by kernel_rfl) (by kernel_rfl) (fun _ _ _ h => h) (Or.inl ⟨by rfl, ?_⟩) hS ?_
  rotate_left 1
  · intro w' hB; have hd := (HC.out.to W14 (by simp)).trans (hB.mono (HC.out.to W14 (by simp)).size); have e4 := cell_of_one (boxStays X14.out hd); have e5 := cell_of_one (boxStays XN14.out hd); clear hd; have hq1 := hq1; (go_simp <;> with_reducible rfl)
  try simp only [Act.put, List.setIfInBounds_toArray, List.set_cons_zero, List.set_cons_succ]
  refine wpAnyH_take (i := 35) (oi := ⟨some 109, _, _, _, _, _⟩) (v := ?_) rfl (by kernel_rfl) (by kernel_rfl) (by kernel_rfl) (fun _ _ _ h => h) (Or.inl ⟨by rfl, ?_⟩) hS ?_
  rotate_left 1
  · intro w' hB; have hd := (HC.out.to W14 (by simp)).trans (hB.mono (HC.out.to W14 (by simp)).size); have e4 := cell_of_one (boxStays X14.out hd); have e5 := cell_of_one (boxStays XN14.out hd); clear hd; have hq1 := hq1; (go_simp <;> with_reducible rfl)
  try simp only [Act.put, List.setIfInBounds_toArray, List.set_cons_zero, List.set_cons_succ]
  refine wpAnyH_take (i := 36) (oi := ⟨some 110, _, _, _, _, _⟩) (v := ?_) rfl (by kernel_rfl) (by kernel_rfl) (by kernel_rfl) (fun _ _ _ h => h) (Or.inl ⟨by rfl, ?_⟩) hS ?_
  rotate_left 1
  · intro w' hB; have hd := (HC.out.to W14 (by simp)).trans (hB.mono (HC.out.to W14 (by simp)).size); have e4 := cell_of_one (boxStays X14.out hd); have e5 := cell_of_one (boxStays XN14.out hd); clear hd; have hq1 := hq1; (go_simp <;> with_reducible rfl)
  try simp only [Act.put, List.setIfInBounds_toArray, List.set_cons_zero, List.set_cons_succ]
  refine wpAnyH_take (i := 38) (oi := ⟨some 112, _, _, _, _, _⟩) (v := ?_) rfl (by kernel_rfl) (by kernel_rfl) (by kernel_rfl) (fun _ _ _ h => h) (Or.inl ⟨by rfl, ?_⟩) hS ?_
  rotate_left 1
  · intro w' hB; have hd := (HC.out.to W14 (by simp)).trans (hB.mono (HC.out.to W14 (by simp)).size); have e4 := cell_of_one (boxStays X14.out hd); have e5 := cell_of_one (boxStays XN14.out hd); clear hd; have hq1 := hq1; (go_simp <;> with_reducible rfl)
  try simp only [Act.put, List.setIfInBounds_toArray, List.set_cons_zero, List.set_cons_succ]
  refine wpAnyH_ready (rs := [37]) (by kernel_rfl) (by simp) (AllReadyH.cons (o := ⟨some 111, _, _, _, _, _⟩) rfl (fun K hK => ?_) AllReadyH.nil)
  go_simp
  refine (kn_takex t _ HI.out (A14.out.chain HC.out hS (by simp))).mono ?_
  rintro e w17 ⟨rfl, hb⟩
  refine hK.out _ _ (hS.trans (hb.mono hS.size)) (fun _ => ?_)
  clear hK K
  have hB := hS.trans (hb.mono hS.size)
  refine wpAnyH_now hB ?_
  clear hS
  have hS := Below.refl w17.heap.size w17
  replace HC := Lib.hid (HC.out.push hB)
  clear hB hb
  try simp only [Act.put, List.setIfInBounds_toArray, List.set_cons_zero, List.set_cons_succ]
  refine wpAnyH_ready (rs := [39]) (by kernel_rfl) (by simp) (AllReadyH.cons (o := ⟨some 113, _, _, _, _, _⟩) rfl (fun K hK => ?_) AllReadyH.nil)
  go_simp
  refine (pm_MSameI t t _ (A14.out.chain HC.out hS (by simp)) (A14.out.chain HC.out hS (by simp))).mono ?_
  rintro e w18 ⟨rfl, hb⟩
  refine hK.out _ _ (hS.trans (hb.mono hS.size)) (fun _ => ?_)
  clear hK K
  have hB := hS.trans (hb.mono hS.size)
  refine wpAnyH_now hB ?_
  clear hS
  have hS := Below.refl w18.heap.size w18
  replace HC := Lib.hid (HC.out.push hB)
  rw [show decide (pa t = pa t) = true from decide_eq_true rfl]
  clear hB hb
  try simp only [Act.put, List.setIfInBounds_toArray, List.set_cons_zero, List.set_cons_succ]
  refine wpAnyH_take (i := 40) (oi := ⟨some 114, _, _, _, _, _⟩) (v := ?_) rfl (by kernel_rfl) (by kernel_rfl) (by kernel_rfl) (fun _ _ _ h => h) (Or.inl ⟨by rfl, ?_⟩) hS ?_
  rotate_left 1
  · intro w' hB; have hd := (HC.out.to W14 (by simp)).trans (hB.mono (HC.out.to W14 (by simp)).size); have e4 := cell_of_one (boxStays X14.out hd); have e5 := cell_of_one (boxStays XN14.out hd); clear hd; have hq1 := hq1; (go_simp <;> with_reducible rfl)
  try simp only [Act.put, List.setIfInBounds_toArray, List.set_cons_zero, List.set_cons_succ]
  refine wpAnyH_take (i := 41) (oi := ⟨some 115, _, _, _, _, _⟩) (v := ?_) rfl (by kernel_rfl) (by kernel_rfl) (by kernel_rfl) (fun _ _ _ h => h) (Or.inl ⟨by rfl, ?_⟩) hS ?_
  rotate_left 1
  · intro w' hB; have hd := (HC.out.to W14 (by simp)).trans (hB.mono (HC.out.to W14 (by simp)).size); have e4 := cell_of_one (boxStays X14.out hd); have e5 := cell_of_one (boxStays XN14.out hd); clear hd; have hq1 := hq1; (go_simp <;> with_reducible rfl)
  try simp only [Act.put, List.setIfInBounds_toArray, List.set_cons_zero, List.set_cons_succ]
  refine wpAnyH_take (i := 42) (oi := ⟨some 116, _, _, _, _, _⟩) (v := ?_) rfl (by kernel_rfl) (by kernel_rfl) (by kernel_rfl) (fun _ _ _ h => h) (Or.inl ⟨by rfl, ?_⟩) hS ?_
  rotate_left 1
  · intro w' hB; have hd := (HC.out.to W14 (by simp)).trans (hB.mono (HC.out.to W14 (by simp)).size); have e4 := cell_of_one (boxStays X14.out hd); have e5 := cell_of_one (boxStays XN14.out hd); clear hd; have hq1 := hq1; (go_simp <;> with_reducible rfl)
  try simp only [Act.put, List.setIfInBounds_toArray, List.set_cons_zero, List.set_cons_succ]
  refine wpAnyH_take (i := 43) (oi := ⟨some 117, _, _, _, _, _⟩) (v := ?_) rfl (by kernel_rfl) (by kernel_rfl) (by kernel_rfl) (fun _ _ _ h => h) (Or.inl ⟨by rfl, ?_⟩) hS ?_
  rotate_left 1
  · intro w' hB; have hd := (HC.out.to W14 (by simp)).trans (hB.mono (HC.out.to W14 (by simp)).size); have e4 := cell_of_one (boxStays X14.out hd); have e5 := cell_of_one (boxStays XN14.out hd); clear hd; have hq1 := hq1; (go_simp <;> with_reducible rfl)
  try simp only [Act.put, List.setIfInBounds_toArray, List.set_cons_zero, List.set_cons_succ]
  refine wpAnyH_take (i := 44) (oi := ⟨some 118, _, _, _, _, _⟩) (v := ?_) rfl (by kernel_rfl) (by kernel_rfl) (by kernel_rfl) (fun _ _ _ h => h) (Or.inl ⟨by rfl, ?_⟩) hS ?_
  rotate_left 1
  · intro w' hB; have hd := (HC.out.to W14 (by simp)).trans (hB.mono (HC.out.to W14 (by simp)).size); have e4 := cell_of_one (boxStays X14.out hd); have e5 := cell_of_one (boxStays XN14.out hd); clear hd; have hq1 := hq1; (go_simp <;> with_reducible rfl)
  try simp only [Act.put, List.setIfInBounds_toArray, List.set_cons_zero, List.set_cons_succ]
  refine wpAnyH_take (i := 45) (oi := ⟨some 119, _, _, _, _, _⟩) (v := ?_) rfl (by kernel_rfl) (by kernel_rfl) (by kernel_rfl) (fun _ _ _ h => h) (Or.inl ⟨by rfl, ?_⟩) hS ?_
  rotate_left 1
  · intro w' hB; have hd := (HC.out.to W14 (by simp)).trans (hB.mono (HC.out.to W14 (by simp)).size); have e4 := cell_of_one (boxStays X14.out hd); have e5 := cell_of_one (boxStays XN14.out hd); clear hd; have hq1 := hq1; (go_simp <;> with_reducible rfl)
  try simp only [Act.put, List.setIfInBounds_toArray, List.set_cons_zero, List.set_cons_succ]
  refine wpAnyH_take (i := 46) (oi := ⟨some 120, _, _, _, _, _⟩) (v := ?_) rfl (by kernel_rfl) (by kernel_rfl) (by kernel_rfl) (fun _ _ _ h => h) (Or.inl ⟨by rfl, ?_⟩) hS ?_
  rotate_left 1
  · intro w' hB; have hd := (HC.out.to W14 (by simp)).trans (hB.mono (HC.out.to W14 (by simp)).size); have e4 := cell_of_one (boxStays X14.out hd); have e5 := cell_of_one (boxStays XN14.out hd); clear hd; have hq1 := hq1; (go_simp <;> with_reducible rfl)
  try simp only [Act.put, List.setIfInBounds_toArray, List.set_cons_zero, List.set_cons_succ]
  refine wpAnyH_take (i := 47) (oi := ⟨some 121, _, _, _, _, _⟩) (v := ?_) rfl (by kernel_rfl) (by kernel_rfl) (by kernel_rfl) (fun _ _ _ h => h) (Or.inl ⟨by rfl, ?_⟩) hS ?_
  rotate_left 1
  · intro w' hB; have hd := (HC.out.to W14 (by simp)).trans (hB.mono (HC.out.to W14 (by simp)).size); have e4 := cell_of_one (boxStays X14.out hd); have e5 := cell_of_one (boxStays XN14.out hd); clear hd; have hq1 := hq1; (go_simp <;> with_reducible rfl)
  try simp only [Act.put, List.setIfInBounds_toArray, List.set_cons_zero, List.set_cons_succ]
  refine wpAnyH_take (i := 48) (oi := ⟨some 122, _, _, _, _, _⟩) (v := ?_) rfl (by kernel_rfl) (by kernel_rfl) (by kernel_rfl) (fun _ _ _ h => h) (Or.inl ⟨by rfl, ?_⟩) hS ?_
  rotate_left 1
  · intro w' hB; have hd := (HC.out.to W14 (by simp)).trans (hB.mono (HC.out.to W14 (by simp)).size); have e4 := cell_of_one (boxStays X14.out hd); have e5 := cell_of_one (boxStays XN14.out hd); clear hd; have hq1 := hq1; (go_simp <;> with_reducible rfl)
  try simp only [Act.put, List.setIfInBounds_toArray, List.set_cons_zero, List.set_cons_succ]
  refine wpAnyH_take (i := 49) (oi := ⟨some 123, _, _, _, _, _⟩) (v := ?_) rfl (by kernel_rfl) (by kernel_rfl) (by kernel_rfl) (fun _ _ _ h => h) (Or.inl ⟨by rfl, ?_⟩) hS ?_
  rotate_left 1
  · intro w' hB; have hd := (HC.out.to W14 (by simp)).trans (hB.mono (HC.out.to W14 (by simp)).size); have e4 := cell_of_one (boxStays X14.out hd); have e5 := cell_of_one (boxStays XN14.out hd); clear hd; have hq1 := hq1; (go_simp <;> with_reducible rfl)
  try simp only [Act.put, List.setIfInBounds_toArray, List.set_cons_zero, List.set_cons_succ]
  refine wpAnyH_take (i := 50) (oi := ⟨some 124, _, _, _, _, _⟩) (v := ?_) rfl (by kernel_rfl) (by kernel_rfl) (by kernel_rfl) (fun _ _ _ h => h) (Or.inl ⟨by rfl, ?_⟩) hS ?_
  rotate_left 1
  · intro w' hB; have hd := (HC.out.to W14 (by simp)).trans (hB.mono (HC.out.to W14 (by simp)).size); have e4 := cell_of_one (boxStays X14.out hd); have e5 := cell_of_one (boxStays XN14.out hd); clear hd; have hq1 := hq1; (go_simp <;> with_reducible rfl)
  try simp only [Act.put, List.setIfInBounds_toArray, List.set_cons_zero, List.set_cons_succ]
  refine wpAnyH_take (i := 51) (oi := ⟨some 125, _, _, _, _, _⟩) (v := ?_) rfl (by kernel_rfl) (by kernel_rfl) (by kernel_rfl) (fun _ _ _ h => h) (Or.inl ⟨by rfl, ?_⟩) hS ?_
  rotate_left 1
  · intro w' hB; have hd := (HC.out.to W14 (by simp)).trans (hB.mono (HC.out.to W14 (by simp)).size); have e4 := cell_of_one (boxStays X14.out hd); have e5 := cell_of_one (boxStays XN14.out hd); clear hd; have hq1 := hq1; (go_simp <;> with_reducible rfl)
  try simp only [Act.put, List.setIfInBounds_toArray, List.set_cons_zero, List.set_cons_succ]
  refine wpAnyH_take (i := 52) (oi := ⟨some 126, _, _, _, _, _⟩) (v := ?_) rfl (by kernel_rfl) (by kernel_rfl) (by kernel_rfl) (fun _ _ _ h => h) (Or.inl ⟨by rfl, ?_⟩) hS ?_
  rotate_left 1
  · intro w' hB; have hd := (HC.out.to W14 (by simp)).trans (hB.mono (HC.out.to W14 (by simp)).size); have e4 := cell_of_one (boxStays X14.out hd); have e5 := cell_of_one (boxStays XN14.out hd); clear hd; have hq1 := hq1; (go_simp <;> with_reducible rfl)
  try simp only [Act.put, List.setIfInBounds_toArray, List.set_cons_zero, List.set_cons_succ]
  refine wpAnyH_take (i := 53) (oi := ⟨some 127, _, _, _, _, _⟩) (v := ?_) rfl (by kernel_rfl) (by kernel_rfl) (by kernel_rfl) (fun _ _ _ h => h) (Or.inl ⟨by rfl, ?_⟩) hS ?_
  rotate_left 1
  · intro w' hB; have hd := (HC.out.to W14 (by simp)).trans (hB.mono (HC.out.to W14 (by simp)).size); have e4 := cell_of_one (boxStays X14.out hd); have e5 := cell_of_one (boxStays XN14.out hd); clear hd; have hq1 := hq1; (go_simp <;> with_reducible rfl)
  try simp only [Act.put, List.setIfInBounds_toArray, List.set_cons_zero, List.set_cons_succ]
  refine wpAnyH_take (i := 54) (oi := ⟨some 128, _, _, _, _, _⟩) (v := ?_) rfl (by kernel_rfl) (by kernel_rfl) (by kernel_rfl) (fun _ _ _ h => h) (Or.inl ⟨by rfl, ?_⟩) hS ?_
  rotate_left 1
  · intro w' hB; have hd := (HC.out.to W14 (by simp)).trans (hB.mono (HC.out.to W14 (by simp)).size); have e4 := cell_of_one (boxStays X14.out hd); have e5 := cell_of_one (boxStays XN14.out hd); clear hd; have hq1 := hq1; (go_simp <;> with_reducible rfl)
  try simp only [Act.put, List.setIfInBounds_toArray, List.set_cons_zero, List.set_cons_succ]
  refine wpAnyH_take (i := 55) (oi := ⟨some 129, _, _, _, _, _⟩) (v := ?_) rfl (by kernel_rfl) (by kernel_rfl) (by kernel_rfl) (fun _ _ _ h => h) (Or.inl ⟨by rfl, ?_⟩) hS ?_
  rotate_left 1
  · intro w' hB; have hd := (HC.out.to W14 (by simp)).trans (hB.mono (HC.out.to W14 (by simp)).size); have e4 := cell_of_one (boxStays X14.out hd); have e5 := cell_of_one (boxStays XN14.out hd); clear hd; have hq1 := hq1; (go_simp <;> with_reducible rfl)
  try simp only [Act.put, List.setIfInBounds_toArray, List.set_cons_zero, List.set_cons_succ]
  refine wpAnyH_take (i := 56) (oi := ⟨some 130, _, _, _, _, _⟩) (v := ?_) rfl (by kernel_rfl) (by kernel_rfl) (by kernel_rfl) (fun _ _ _ h => h) (Or.inl ⟨by rfl, ?_⟩) hS ?_
  rotate_left 1
  · intro w' hB; have hd := (HC.out.to W14 (by simp)).trans (hB.mono (HC.out.to W14 (by simp)).size); have e4 := cell_of_one (boxStays X14.out hd); have e5 := cell_of_one (boxStays XN14.out hd); clear hd; have hq1 := hq1; (go_simp <;> with_reducible rfl)
  try simp only [Act.put, List.setIfInBounds_toArray, List.set_cons_zero, List.set_cons_succ]
  refine wpAnyH_take (i := 57) (oi := ⟨some 131, _, _, _, _, _⟩) (v := ?_) rfl (by kernel_rfl) (by kernel_rfl) (by kernel_rfl) (fun _ _ _ h => h) (Or.inl ⟨by rfl, ?_⟩) hS ?_
  rotate_left 1
  · intro w' hB; have hd := (HC.out.to W14 (by simp)).trans (hB.mono (HC.out.to W14 (by simp)).size); have e4 := cell_of_one (boxStays X14.out hd); have e5 := cell_of_one (boxStays XN14.out hd); clear hd; have hq1 := hq1; (go_simp <;> with_reducible rfl)
  try simp only [Act.put, List.setIfInBounds_toArray, List.set_cons_zero, List.set_cons_succ]
  refine wpAnyH_take (i := 58) (oi := ⟨some 132, _, _, _, _, _⟩) (v := ?_) rfl (by kernel_rfl) (by kernel_rfl) (by kernel_rfl) (fun _ _ _ h => h) (Or.inl ⟨by rfl, ?_⟩) hS ?_
  rotate_left 1
  · intro w' hB; have hd := (HC.out.to W14 (by simp)).trans (hB.mono (HC.out.to W14 (by simp)).size); have e4 := cell_of_one (boxStays X14.out hd); have e5 := cell_of_one (boxStays XN14.out hd); clear hd; have hq1 := hq1; (go_simp <;> with_reducible rfl)
  try simp only [Act.put, List.setIfInBounds_toArray, List.set_cons_zero, List.set_cons_succ]
  refine wpAnyH_take (i := 59) (oi := ⟨some 133, _, _, _, _, _⟩) (v := ?_) rfl (by kernel_rfl) (by kernel_rfl) (by kernel_rfl) (fun _ _ _ h => h) (Or.inl ⟨by rfl, ?_⟩) hS ?_
  rotate_left 1
  · intro w' hB; have hd := (HC.out.to W14 (by simp)).trans (hB.mono (HC.out.to W14 (by simp)).size); have e4 := cell_of_one (boxStays X14.out hd); have e5 := cell_of_one (boxStays XN14.out hd); clear hd; have hq1 := hq1; (go_simp <;> with_reducible rfl)
  try simp only [Act.put, List.setIfInBounds_toArray, List.set_cons_zero, List.set_cons_succ]
  refine wpAnyH_take (i := 60) (oi := ⟨some 134, _, _, _, _, _⟩) (v := ?_) rfl (by kernel_rfl) (by kernel_rfl) (by kernel_rfl) (fun _ _ _ h => h) (Or.inl ⟨by rfl, ?_⟩) hS ?_
  rotate_left 1
  · intro w' hB; have hd := (HC.out.to W14 (by simp)).trans (hB.mono (HC.out.to W14 (by simp)).size); have e4 := cell_of_one (boxStays X14.out hd); have e5 := cell_of_one (boxStays XN14.out hd); clear hd; have hq1 := hq1; (go_simp <;> with_reducible rfl)
  try simp only [Act.put, List.setIfInBounds_toArray, List.set_cons_zero, List.set_cons_succ]
  refine wpAnyH_take (i := 61) (oi := ⟨some 135, _, _, _, _, _⟩) (v := ?_) rfl (by kernel_rfl) (by kernel_rfl) (by kernel_rfl) (fun _ _ _ h => h) (Or.inl ⟨by rfl, ?_⟩) hS ?_
  rotate_left 1
  · intro w' hB; have hd := (HC.out.to W14 (by simp)).trans (hB.mono (HC.out.to W14 (by simp)).size); have e4 := cell_of_one (boxStays X14.out hd); have e5 := cell_of_one (boxStays XN14.out hd); clear hd; have hq1 := hq1; (go_simp <;> with_reducible rfl)
  try simp only [Act.put, List.setIfInBounds_toArray, List.set_cons_zero, List.set_cons_succ]
  refine wpAnyH_take (i := 62) (oi := ⟨some 136, _, _, _, _, _⟩) (v := ?_) rfl (by kernel_rfl) (by kernel_rfl) (by kernel_rfl) (fun _ _ _ h => h) (Or.inl ⟨by rfl, ?_⟩) hS ?_
  rotate_left 1
  · intro w' hB; have hd := (HC.out.to W14 (by simp)).trans (hB.mono (HC.out.to W14 (by simp)).size); have e4 := cell_of_one (boxStays X14.out hd); have e5 := cell_of_one (boxStays XN14.out hd); clear hd; have hq1 := hq1; (go_simp <;> with_reducible rfl)
  try simp only [Act.put, List.setIfInBounds_toArray, List.set_cons_zero, List.set_cons_succ]
  refine wpAnyH_take (i := 63) (oi := ⟨some 137, _, _, _, _, _⟩) (v := ?_) rfl (by kernel_rfl) (by kernel_rfl) (by kernel_rfl) (fun _ _ _ h => h) (Or.inl ⟨by rfl, ?_⟩) hS ?_
  rotate_left 1
  · intro w' hB; have hd := (HC.out.to W14 (by simp)).trans (hB.mono (HC.out.to W14 (by simp)).size); have e4 := cell_of_one (boxStays X14.out hd); have e5 := cell_of_one (boxStays XN14.out hd); clear hd; have hq1 := hq1; (go_simp <;> with_reducible rfl)
  try simp only [Act.put, List.setIfInBounds_toArray, List.set_cons_zero, List.set_cons_succ]
  refine wpAnyH_take (i := 64) (oi := ⟨some 138, _, _, _, _, _⟩) (v := ?_) rfl (by kernel_rfl) (by kernel_rfl) (by kernel_rfl) (fun _ _ _ h => h) (Or.inl ⟨by rfl, ?_⟩) hS ?_
  rotate_left 1
  · intro w' hB; have hd := (HC.out.to W14 (by simp)).trans (hB.mono (HC.out.to W14 (by simp)).size); have e4 := cell_of_one (boxStays X14.out hd); have e5 := cell_of_one (boxStays XN14.out hd); clear hd; have hq1 := hq1; (go_simp <;> with_reducible rfl)
  try simp only [Act.put, List.setIfInBounds_toArray, List.set_cons_zero, List.set_cons_succ]
  refine wpAnyH_take (i := 65) (oi := ⟨some 139, _, _, _, _, _⟩) (v := ?_) rfl (by kernel_rfl) (by kernel_rfl) (by kernel_rfl) (fun _ _ _ h => h) (Or.inl ⟨by rfl, ?_⟩) hS ?_
  rotate_left 1
  · intro w' hB; have hd := (HC.out.to W14 (by simp)).trans (hB.mono (HC.out.to W14 (by simp)).size); have e4 := cell_of_one (boxStays X14.out hd); have e5 := cell_of_one (boxStays XN14.out hd); clear hd; have hq1 := hq1; (go_simp <;> with_reducible rfl)
  try simp only [Act.put, List.setIfInBounds_toArray, List.set_cons_zero, List.set_cons_succ]
  refine wpAnyH_take (i := 66) (oi := ⟨some 140, _, _, _, _, _⟩) (v := ?_) rfl (by kernel_rfl) (by kernel_rfl) (by kernel_rfl) (fun _ _ _ h => h) (Or.inl ⟨by rfl, ?_⟩) hS ?_
  rotate_left 1
  · intro w' hB; have hd := (HC.out.to W14 (by simp)).trans (hB.mono (HC.out.to W14 (by simp)).size); have e4 := cell_of_one (boxStays X14.out hd); have e5 := cell_of_one (boxStays XN14.out hd); clear hd; have hq1 := hq1; (go_simp <;> with_reducible rfl)
  try simp only [Act.put, List.setIfInBounds_toArray, List.set_cons_zero, List.set_cons_succ]
  refine wpAnyH_ready (rs := [67]) (by kernel_rfl) (by simp) (AllReadyH.cons (o := ⟨some 141, _, _, _, _, _⟩) rfl (fun K hK => ?_) AllReadyH.nil)
  go_simp
  refine (pm_SharedI t n _ (A14.out.chain HC.out hS (by simp)) (AN14.out.chain HC.out hS (by simp)) (nodup_blocksI n (AN14.out.chain HC.out hS (by simp)) SN.out) (by rw [SZ.out.2]; omega)).mono ?_
  rintro e w19 ⟨rfl, hb⟩
  refine hK.out _ _ (hS.trans (hb.mono hS.size)) (fun _ => ?_)
  clear hK K
  have hB := hS.trans (hb.mono hS.size)
  refine wpAnyH_now hB ?_
  clear hS
  have hS := Below.refl w19.heap.size w19
  replace HC := Lib.hid (HC.out.push hB)
  rw [HQ.out]
  clear hB hb
  try simp only [Act.put, List.setIfInBounds_toArray, List.set_cons_zero, List.set_cons_succ]
  refine wpAnyH_take (i := 68) (oi := ⟨some 142, _, _, _, _, _⟩) (v := ?_) rfl (by kernel_rfl) (by kernel_rfl) (by kernel_rfl) (fun _ _ _ h => h) (Or.inl ⟨by rfl, ?_⟩) hS ?_
  rotate_left 1
  · intro w' hB; have hd := (HC.out.to W14 (by simp)).trans (hB.mono (HC.out.to W14 (by simp)).size); have e4 := cell_of_one (boxStays X14.out hd); have e5 := cell_of_one (boxStays XN14.out hd); clear hd; have hq1 := hq1; (go_simp <;> with_reducible rfl)
  try simp only [Act.put, List.setIfInBounds_toArray, List.set_cons_zero, List.set_cons_succ]
  refine wpAnyH_take (i := 69) (oi := ⟨some 143, _, _, _, _, _⟩) (v := ?_) rfl (by kernel_rfl) (by kernel_rfl) (by kernel_rfl) (fun _ _ _ h => h) (Or.inl ⟨by rfl, ?_⟩) hS ?_
  rotate_left 1
  · intro w' hB; have hd := (HC.out.to W14 (by simp)).trans (hB.mono (HC.out.to W14 (by simp)).size); have e4 := cell_of_one (boxStays X14.out hd); have e5 := cell_of_one (boxStays XN14.out hd); clear hd; have hq1 := hq1; (go_simp <;> with_reducible rfl)
  try simp only [Act.put, List.setIfInBounds_toArray, List.set_cons_zero, List.set_cons_succ]
  refine wpAnyH_take (i := 70) (oi := ⟨some 0, _, _, _, _, _⟩) (v := ?_) rfl (by kernel_rfl) (by kernel_rfl) (by kernel_rfl) (fun _ _ _ h => h) (Or.inl ⟨by rfl, ?_⟩) hS ?_
  rotate_left 1
  · intro w' hB; have hd := (HC.out.to W14 (by simp)).trans (hB.mono (HC.out.to W14 (by simp)).size); have e4 := cell_of_one (boxStays X14.out hd); have e5 := cell_of_one (boxStays XN14.out hd); clear hd; have hq1 := hq1; (go_simp <;> with_reducible rfl)
  try simp only [Act.put, List.setIfInBounds_toArray, List.set_cons_zero, List.set_cons_succ]
  refine wpAnyH_done (by kernel_rfl) (NoPanic.normal ?_) _
  have DD : Hid (Below w.heap.size w w19) := Lib.hid (D14.out.trans ((HC.out.to W14 (by simp)).mono S14.out))
  clear hS HC
  go_wp2_with fail
  go_ret
  exact ⟨rfl, DD.out⟩
end Go.Proofs.Ytikdlhbamdefaaa

