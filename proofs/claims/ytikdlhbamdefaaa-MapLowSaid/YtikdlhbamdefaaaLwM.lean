
/- Walks: MapLow (under way). -/
import Derived.Test.YtikdlhbamdefaaaLwL
import Derived.Test.YtikdlhbamdefaaaLwI
namespace Go.Proofs.Ytikdlhbamdefaaa
open Go.RowKit Pm
theorem u8_ex (y : Int) : ∃ c : UInt8, IntKind.u8.wrap y = (c.toNat : Int) := by
  have e : IntKind.u8.wrap y = y % 256 := by simp [IntKind.wrap, IntKind.bits, IntKind.signed]
  refine ⟨UInt8.ofNat (y % 256).toNat, ?_⟩
  rw [e, UInt8.toNat_ofNat']
  omega
set_option maxRecDepth 100000 in
set_option maxHeartbeats 8000000 in
theorem lw_MapLow (ks : List Int) (bs : List Bool) (ak ab : Option Addr) (ck cb : Nat) (w : World) (hk : CellsAt w ak (ks.map (Value.int .u16))) (hb : CellsAt w ab (bs.map Value.bool)) (hr : ∀ x ∈ ks, 0 ≤ x ∧ x < 65536) (hlk : ks.length ≤ maxLen) (hlb : bs.length ≤ maxLen) :
    Calls Try.prog 3 #[.slice ak ks.length ck, .slice ab bs.length cb] w fun e w' => e = .returned (.bool true) ∧ Below w.heap.size w w' := by
  have HK := Lib.hid hk
  have HBB := Lib.hid hb
  have HR := Lib.hid hr
  have hb0 := below_new w (.cells #[.pointer none] 26)
  have x0 : (w.alloc (.cells #[.pointer none] 26)).heap[w.heap.size]? = some (.cells #[.pointer none] 26 (0, 0)) := heap_alloc_new w _
  have B0 := Lib.hid hb0
  have X0 := Lib.hid x0
  clear hk hb hr hb0 x0
  obtain ⟨n, hn⟩ : ∃ n, ks.length = n := ⟨_, rfl⟩
  obtain ⟨m, hm⟩ : ∃ m, bs.length = m := ⟨_, rfl⟩
  have HN := Lib.hid hn
  have HM := Lib.hid hm
  rw [hn] at hlk ⊢
  rw [hm] at hlb ⊢
  clear hn hm
  unfold maxLen at hlk hlb
  go_enter Try.func3, Try.ntmps3
  go_wp2_with fail
  go_loopw [6, 7] (fun v u wr => ∃ (i : Nat) (t : Tr Int), u = .int .i64 (i : Int) ∧ i ≤ n ∧ i ≤ 300 ∧ Hid (sz t ≤ i) ∧ Hid (EntAt wr v (items t)) ∧ Hid (AtI wr t) ∧ Hid (Bal t ∧ Srt (items t)) ∧ Hid (wr.heap[w.heap.size]? = some (.cells #[.pointer (pa t)] 26 (0, 0))) ∧ Hid (Below w.heap.size w wr)) (fun _ u _ => n - (intOf u).toNat)
  case atStart => exact ⟨0, .nil, rfl, Nat.zero_le _, Nat.zero_le _, Lib.hid (Nat.le_refl _), Lib.hid ⟨none, 0, rfl, Nat.le_refl _, Nat.zero_le _, CellsAt.nil _ _⟩, Lib.hid trivial, Lib.hid ⟨trivial, List.Pairwise.nil⟩, X0, B0⟩
  case round =>
    clear X0 B0
    obtain ⟨i, t, rfl, hi, hi3, HZ, HE, HA, HS, X0, HB⟩ := hrel
    by_cases hlt : i < n ∧ i < 300
    · have hli : (i : Int) < (n : Int) := by omega
      have hl3 : (i : Int) < 300 := by omega
      have hil : i < ks.length := by rw [HN.out]; omega
      obtain ⟨x, hx⟩ : ∃ x, ks[i]'hil = x := ⟨_, rfl⟩
      obtain ⟨b, off, ha, hc0⟩ := HK.out.get i (.int .u16 x) (by rw [List.getElem?_map, List.getElem?_eq_getElem hil, hx]; rfl)
      subst ha
      have Q0 : Hid (wr.cell? ⟨b, off + i, none⟩ = some (.int .u16 x)) := Lib.hid ((HB.out.cell (p := ⟨b, off + i, none⟩) (block_lt_of_cell hc0)).trans hc0)
      have hxr := HR.out x (by rw [← hx]; exact List.getElem_mem hil)
      have hnle : ¬ n ≤ i := by omega
      have hdle : decide (n ≤ i) = false := by simp; omega
      obtain ⟨c1, hc1⟩ := u8_ex (x / 256)
      obtain ⟨c2, hc2⟩ := u8_ex x
      have HC : Hid (Chain [wr] wr) := Lib.hid (Chain.one wr)
      clear hc0 hx hil
      go_wp2_with fail
      refine wp_region_noPanic ?_
      refine wp_region_held_drew (S := fun w' => Below wr.heap.size wr w') (by kernel_rfl) (Below.refl _ _).drew (fun hS => ?_)
      refine wpAnyH_take (i := 0) (oi := ⟨some 22, _, _, _, _, _⟩) (v := ?_) rfl (by kernel_rfl) (by kernel_rfl) (by kernel_rfl) (fun _ _ _ h => h) (Or.inl ⟨by rfl, ?_⟩) hS ?_
      rotate_left 1
      · intro w' hB; have hd := (HC.out.to wr (by simp)).trans (hB.mono (HC.out.to wr (by simp)).size); have q0 := (hd.cell (p := ⟨b, off + i, none⟩) (block_lt_of_cell Q0.out)).trans Q0.out; clear hd; have hnle := hnle; have hdle := hdle; have hli := hli; have hxr := hxr; (try have cv := conv_bytes (KB.out.below hB rfl) 30 5 9 Try.underlying30 Try.underlying5 Try.underlying9 2 2 rfl); (go_simp <;> with_reducible rfl)
      try simp only [Act.put, List.setIfInBounds_toArray, List.set_cons_zero, List.set_cons_succ]
      refine wpAnyH_take (i := 1) (oi := ⟨some 23, _, _, _, _, _⟩) (v := ?_) rfl (by kernel_rfl) (by kernel_rfl) (by kernel_rfl) (fun _ _ _ h => h) (Or.inl ⟨by rfl, ?_⟩) hS ?_
      rotate_left 1
      · intro w' hB; have hd := (HC.out.to wr (by simp)).trans (hB.mono (HC.out.to wr (by simp)).size); have q0 := (hd.cell (p := ⟨b, off + i, none⟩) (block_lt_of_cell Q0.out)).trans Q0.out; clear hd; have hnle := hnle; have hdle := hdle; have hli := hli; have hxr := hxr; (try have cv := conv_bytes (KB.out.below hB rfl) 30 5 9 Try.underlying30 Try.underlying5 Try.underlying9 2 2 rfl); (go_simp <;> with_reducible rfl)
      try simp only [Act.put, List.setIfInBounds_toArray, List.set_cons_zero, List.set_cons_succ]
      refine wpAnyH_take (i := 2) (oi := ⟨some 24, _, _, _, _, _⟩) (v := ?_) rfl (by kernel_rfl) (by kernel_rfl) (by kernel_rfl) (fun _ _ _ h => h) (Or.inl ⟨by rfl, ?_⟩) hS ?_
      rotate_left 1
      · intro w' hB; have hd := (HC.out.to wr (by simp)).trans (hB.mono (HC.out.to wr (by simp)).size); have q0 := (hd.cell (p := ⟨b, off + i, none⟩) (block_lt_of_cell Q0.out)).trans Q0.out; clear hd; have hnle := hnle; have hdle := hdle; have hli := hli; have hxr := hxr; (try have cv := conv_bytes (KB.out.below hB rfl) 30 5 9 Try.underlying30 Try.underlying5 Try.underlying9 2 2 rfl); (go_simp <;> with_reducible rfl)
      try simp only [Act.put, List.setIfInBounds_toArray, List.set_cons_zero, List.set_cons_succ]
      refine wpAnyH_take (i := 3) (oi := ⟨some 25, _, _, _, _, _⟩) (v := ?_) rfl (by kernel_rfl) (by kernel_rfl) (by kernel_rfl) (fun _ _ _ h => h) (Or.inl ⟨by rfl, ?_⟩) hS ?_
      rotate_left 1
      · intro w' hB; have hd := (HC.out.to wr (by simp)).trans (hB.mono (HC.out.to wr (by simp)).size); have q0 := (hd.cell (p := ⟨b, off + i, none⟩) (block_lt_of_cell Q0.out)).trans Q0.out; clear hd; have hnle := hnle; have hdle := hdle; have hli := hli; have hxr := hxr; (try have cv := conv_bytes (KB.out.below hB rfl) 30 5 9 Try.underlying30 Try.underlying5 Try.underlying9 2 2 rfl); (go_simp <;> with_reducible rfl)
      try simp only [Act.put, List.setIfInBounds_toArray, List.set_cons_zero, List.set_cons_succ]
      refine wpAnyH_take (i := 4) (oi := ⟨some 26, _, _, _, _, _⟩) (v := ?_) rfl (by kernel_rfl) (by kernel_rfl) (by kernel_rfl) (fun _ _ _ h => h) (Or.inl ⟨by rfl, ?_⟩) hS ?_
      rotate_left 1
      · intro w' hB; have hd := (HC.out.to wr (by simp)).trans (hB.mono (HC.out.to wr (by simp)).size); have q0 := (hd.cell (p := ⟨b, off + i, none⟩) (block_lt_of_cell Q0.out)).trans Q0.out; clear hd; have hnle := hnle; have hdle := hdle; have hli := hli; have hxr := hxr; (try have cv := conv_bytes (KB.out.below hB rfl) 30 5 9 Try.underlying30 Try.underlying5 Try.underlying9 2 2 rfl); (go_simp <;> with_reducible rfl)
      try simp only [Act.put, List.setIfInBounds_toArray, List.set_cons_zero, List.set_cons_succ]
      refine wpAnyH_take (i := 5) (oi := ⟨some 27, _, _, _, _, _⟩) (v := ?_) rfl (by kernel_rfl) (by kernel_rfl) (by kernel_rfl) (fun _ _ _ h => h) (Or.inl ⟨by rfl, ?_⟩) hS ?_
      rotate_left 1
      · intro w' hB; have hd := (HC.out.to wr (by simp)).trans (hB.mono (HC.out.to wr (by simp)).size); have q0 := (hd.cell (p := ⟨b, off + i, none⟩) (block_lt_of_cell Q0.out)).trans Q0.out; clear hd; have hnle := hnle; have hdle := hdle; have hli := hli; have hxr := hxr; (try have cv := conv_bytes (KB.out.below hB rfl) 30 5 9 Try.underlying30 Try.underlying5 Try.underlying9 2 2 rfl); (go_simp <;> with_reducible rfl)
      try simp only [Act.put, List.setIfInBounds_toArray, List.set_cons_zero, List.set_cons_succ]
      refine wpAnyH_take (i := 6) (oi := ⟨some 28, _, _, _, _, _⟩) (v := ?_) rfl (by kernel_rfl) (by kernel_rfl) (by kernel_rfl) (fun _ _ _ h => h) (Or.inl ⟨by rfl, ?_⟩) hS ?_
      rotate_left 1
      · intro w' hB; have hd := (HC.out.to wr (by simp)).trans (hB.mono (HC.out.to wr (by simp)).size); have q0 := (hd.cell (p := ⟨b, off + i, none⟩) (block_lt_of_cell Q0.out)).trans Q0.out; clear hd; have hnle := hnle; have hdle := hdle; have hli := hli; have hxr := hxr; (try have cv := conv_bytes (KB.out.below hB rfl) 30 5 9 Try.underlying30 Try.underlying5 Try.underlying9 2 2 rfl); (go_simp <;> with_reducible rfl)
      try simp only [Act.put, List.setIfInBounds_toArray, List.set_cons_zero, List.set_cons_succ]
      refine wpAnyH_take (i := 7) (oi := ⟨some 29, _, _, _, _, _⟩) (v := ?_) rfl (by kernel_rfl) (by kernel_rfl) (by kernel_rfl) (fun _ _ _ h => h) (Or.inl ⟨by rfl, ?_⟩) hS ?_
      rotate_left 1
      · intro w' hB; have hd := (HC.out.to wr (by simp)).trans (hB.mono (HC.out.to wr (by simp)).size); have q0 := (hd.cell (p := ⟨b, off + i, none⟩) (block_lt_of_cell Q0.out)).trans Q0.out; clear hd; have hnle := hnle; have hdle := hdle; have hli := hli; have hxr := hxr; (try have cv := conv_bytes (KB.out.below hB rfl) 30 5 9 Try.underlying30 Try.underlying5 Try.underlying9 2 2 rfl); (go_simp <;> with_reducible rfl)
      try simp only [Act.put, List.setIfInBounds_toArray, List.set_cons_zero, List.set_cons_succ]
      refine wpAnyH_take (i := 8) (oi := ⟨some 30, _, _, _, _, _⟩) (v := ?_) rfl (by kernel_rfl) (by kernel_rfl) (by kernel_rfl) (fun _ _ _ h => h) (Or.inl ⟨by rfl, ?_⟩) hS ?_
      rotate_left 1
      · intro w' hB; have hd := (HC.out.to wr (by simp)).trans (hB.mono (HC.out.to wr (by simp)).size); have q0 := (hd.cell (p := ⟨b, off + i, none⟩) (block_lt_of_cell Q0.out)).trans Q0.out; clear hd; have hnle := hnle; have hdle := hdle; have hli := hli; have hxr := hxr; (try have cv := conv_bytes (KB.out.below hB rfl) 30 5 9 Try.underlying30 Try.underlying5 Try.underlying9 2 2 rfl); (go_simp <;> with_reducible rfl)
      try simp only [Act.put, List.setIfInBounds_toArray, List.set_cons_zero, List.set_cons_succ]
      refine wpAnyH_take (i := 9) (oi := ⟨some 31, _, _, _, _, _⟩) (v := ?_) rfl (by kernel_rfl) (by kernel_rfl) (by kernel_rfl) (fun _ _ _ h => h) (Or.inl ⟨by rfl, ?_⟩) hS ?_
      rotate_left 1
      · intro w' hB; have hd := (HC.out.to wr (by simp)).trans (hB.mono (HC.out.to wr (by simp)).size); have q0 := (hd.cell (p := ⟨b, off + i, none⟩) (block_lt_of_cell Q0.out)).trans Q0.out; clear hd; have hnle := hnle; have hdle := hdle; have hli := hli; have hxr := hxr; (try have cv := conv_bytes (KB.out.below hB rfl) 30 5 9 Try.underlying30 Try.underlying5 Try.underlying9 2 2 rfl); (go_simp <;> with_reducible rfl)
      try simp only [Act.put, List.setIfInBounds_toArray, List.set_cons_zero, List.set_cons_succ]
      refine wpAnyH_take (i := 10) (oi := ⟨some 32, _, _, _, _, _⟩) (v := ?_) rfl (by kernel_rfl) (by kernel_rfl) (by kernel_rfl) (fun _ _ _ h => h) (Or.inl ⟨by rfl, ?_⟩) hS ?_
      rotate_left 1
      · intro w' hB; have hd := (HC.out.to wr (by simp)).trans (hB.mono (HC.out.to wr (by simp)).size); have q0 := (hd.cell (p := ⟨b, off + i, none⟩) (block_lt_of_cell Q0.out)).trans Q0.out; clear hd; have hnle := hnle; have hdle := hdle; have hli := hli; have hxr := hxr; (try have cv := conv_bytes (KB.out.below hB rfl) 30 5 9 Try.underlying30 Try.underlying5 Try.underlying9 2 2 rfl); (go_simp <;> with_reducible rfl)
      try simp only [Act.put, List.setIfInBounds_toArray, List.set_cons_zero, List.set_cons_succ]
      refine wpAnyH_ready (rs := [11]) (by kernel_rfl) (by simp) (AllReadyH.cons (o := ⟨some 33, _, _, _, _, _⟩) rfl (fun K hK => ?_) AllReadyH.nil)
      go_simp
      refine hK.out _ _ (hS.alloc hS.size _) (fun _ => ?_)
      clear hK K
      refine wpAnyH_made hS ?_
      rintro wk hw hB
      clear hS
      have hS := Below.refl wk.heap.size wk
      replace HC := Lib.hid (HC.out.push hB)
      have KB : Hid (BytesAt wk (some ⟨wr.heap.size, 0, none⟩) [c1, c2]) := Lib.hid (by rw [hw]; exact BytesAt.fresh wr.drew 5 (0, 0) [c1, c2] _ rfl)
      clear hw hB
      try simp only [Act.put, List.setIfInBounds_toArray, List.set_cons_zero, List.set_cons_succ]
      refine wpAnyH_take (i := 12) (oi := ⟨some 34, _, _, _, _, _⟩) (v := ?_) rfl (by kernel_rfl) (by kernel_rfl) (by kernel_rfl) (fun _ _ _ h => h) (Or.inl ⟨by rfl, ?_⟩) hS ?_
      rotate_left 1
      · intro w' hB; have hd := (HC.out.to wr (by simp)).trans (hB.mono (HC.out.to wr (by simp)).size); have q0 := (hd.cell (p := ⟨b, off + i, none⟩) (block_lt_of_cell Q0.out)).trans Q0.out; clear hd; have hnle := hnle; have hdle := hdle; have hli := hli; have hxr := hxr; (try have cv := conv_bytes (KB.out.below hB rfl) 30 5 9 Try.underlying30 Try.underlying5 Try.underlying9 2 2 rfl); (go_simp <;> with_reducible rfl)
      try simp only [Act.put, List.setIfInBounds_toArray, List.set_cons_zero, List.set_cons_succ]
      refine wpAnyH_take (i := 13) (oi := ⟨some 8, _, _, _, _, _⟩) (v := ?_) rfl (by kernel_rfl) (by kernel_rfl) (by kernel_rfl) (fun _ _ _ h => h) (Or.inl ⟨by rfl, ?_⟩) hS ?_
      rotate_left 1
      · intro w' hB; have hd := (HC.out.to wr (by simp)).trans (hB.mono (HC.out.to wr (by simp)).size); have q0 := (hd.cell (p := ⟨b, off + i, none⟩) (block_lt_of_cell Q0.out)).trans Q0.out; clear hd; have hnle := hnle; have hdle := hdle; have hli := hli; have hxr := hxr; (try have cv := conv_bytes (KB.out.below hB rfl) 30 5 9 Try.underlying30 Try.underlying5 Try.underlying9 2 2 rfl); (go_simp <;> with_reducible rfl)
      try simp only [Act.put, List.setIfInBounds_toArray, List.set_cons_zero, List.set_cons_succ]
      refine wpAnyH_done (by kernel_rfl) (NoPanic.normal ?_) _
      obtain ⟨k, hk⟩ : ∃ k : ByteArray, (⟨#[c1, c2]⟩ : ByteArray) = k := ⟨_, rfl⟩
      rw [hk]
      have h2 := HC.out.to wr (by simp)
      have D1 : Hid (Below w.heap.size w wk) := Lib.hid (HB.out.trans (h2.mono HB.out.size))
      have A1 := Lib.hid (HA.out.below h2 rfl)
      have E1 := Lib.hid (HE.out.below h2)
      have X1 := Lib.hid (boxStays X0.out h2)
      clear h2 hS HC HB HA HE X0 KB Q0 hc1 hc2 hk
      obtain ⟨tk, htk⟩ : ∃ tk : Option Bool, bs[i]? = tk := ⟨_, rfl⟩
      have TK : Hid ((tk = none ∧ m ≤ i) ∨ (∃ y b2 o2, tk = some y ∧ i < m ∧ ab = some ⟨b2, o2, none⟩ ∧ wk.cell? ⟨b2, o2 + i, none⟩ = some (.bool y))) := Lib.hid (by
        cases tk with
        | none => exact .inl ⟨rfl, by rw [← HM.out]; exact List.getElem?_eq_none_iff.1 htk⟩
        | some y =>
          obtain ⟨hl, he⟩ := List.getElem?_eq_some_iff.1 htk
          obtain ⟨b2, o2, e, c⟩ := HBB.out.get i (.bool y) (by rw [List.getElem?_map, htk]; rfl)
          exact .inr ⟨y, b2, o2, rfl, by rw [← HM.out]; exact hl, e, (D1.out.cell (p := ⟨b2, o2 + i, none⟩) (block_lt_of_cell c)).trans c⟩)
      clear htk
      refine TK.out.elim (fun hq => ?tkNo) (fun hq => ?tkYes) <;> clear TK
      case' tkNo =>
        obtain ⟨rfl, hmi⟩ := hq
        have hmi2 : ¬ (i : Int) < (m : Int) := by omega
        have k4 := cell_of_one X1.out
        go_wp2_with fail
        refine (pm_MPutI t k (i : Int) wk.heap.size wk (Nat.le_refl _) A1.out (by have := HZ.out; omega)).mono ?_
        rintro e w3 ⟨t', hP, rfl, hA', hb⟩
        have P1 : Hid (items t' = ins k (i : Int) (items t) ∧ Bal t' ∧ Srt (items t') ∧ sz t' ≤ i + 1) := Lib.hid ⟨hP.items HS.out.2, (hP.bal HS.out.1).1, by rw [hP.items HS.out.2]; exact ins_srt HS.out.2, by have := hP.sz_leI; have := HZ.out; omega⟩
        have D2 : Hid (Below w.heap.size w w3) := Lib.hid (D1.out.trans (hb.mono D1.out.size))
        have A2 := Lib.hid hA'
        have E2 := Lib.hid (E1.out.below hb)
        have X2 := Lib.hid (boxStays X1.out hb)
        clear hP hA' hb A1 D1 E1 X1 k4
        go_wp2_with fail
        refine (lw_put (items t) k (i : Int) u6 w3 E2.out (by rw [sz_items]; have := HZ.out; omega)).mono ?_
        rintro e w4 ⟨v', rfl, hE, hb⟩
        rw [← P1.out.1] at hE
      case' tkYes =>
        obtain ⟨y, b2, o2, rfl, him, rfl, q0⟩ := hq
        have him2 : (i : Int) < (m : Int) := by omega
        have hnle2 : ¬ m ≤ i := by omega
        have hdle2 : decide (m ≤ i) = false := by simp; omega
        have k4 := cell_of_one X1.out
        refine (Bool.eq_false_or_eq_true y).elim (fun e => ?yT) (fun e => ?yF) <;> subst e
        case' yT =>
          go_wp2_with fail
          refine (pm_MTakeI t k wk.heap.size wk (Nat.le_refl _) A1.out (by have := HZ.out; omega)).mono ?_
          rintro e w3 ⟨t', hP, rfl, hA', hb⟩
          have P1 : Hid (items t' = del k (items t) ∧ Bal t' ∧ Srt (items t') ∧ sz t' ≤ i + 1) := Lib.hid (by
            rcases hP with ⟨h1, rfl⟩ | ⟨_, h1⟩
            · exact ⟨(del_none (seek_none HS.out.2 h1)).symm, HS.out.1, HS.out.2, by have := HZ.out; omega⟩
            · refine ⟨h1.items HS.out.2, (h1.bal HS.out.1).1, by rw [h1.items HS.out.2]; exact del_srt HS.out.2, ?_⟩
              rw [← sz_items, h1.items HS.out.2]
              have h2 := List.length_filter_le (fun x : ByteArray × Int => !decide (x.1 = k)) (items t)
              have h3 := sz_items t
              have := HZ.out
              have h4 : (del k (items t)).length ≤ (items t).length := by unfold del; exact List.length_filter_le _ _
              omega)
          have D2 : Hid (Below w.heap.size w w3) := Lib.hid (D1.out.trans (hb.mono D1.out.size))
          have A2 := Lib.hid hA'
          have E2 := Lib.hid (E1.out.below hb)
          have X2 := Lib.hid (boxStays X1.out hb)
          clear hP hA' hb A1 D1 E1 X1 k4
          go_wp2_with fail
          refine (lw_take (items t) k u6 w3 E2.out (by rw [sz_items]; have := HZ.out; omega) HS.out.2).mono ?_
          rintro e w4 ⟨v', rfl, hE, hb⟩
          rw [← P1.out.1] at hE
        case' yF =>
          go_wp2_with fail
          refine (pm_MPutI t k (i : Int) wk.heap.size wk (Nat.le_refl _) A1.out (by have := HZ.out; omega)).mono ?_
          rintro e w3 ⟨t', hP, rfl, hA', hb⟩
          have P1 : Hid (items t' = ins k (i : Int) (items t) ∧ Bal t' ∧ Srt (items t') ∧ sz t' ≤ i + 1) := Lib.hid ⟨hP.items HS.out.2, (hP.bal HS.out.1).1, by rw [hP.items HS.out.2]; exact ins_srt HS.out.2, by have := hP.sz_leI; have := HZ.out; omega⟩
          have D2 : Hid (Below w.heap.size w w3) := Lib.hid (D1.out.trans (hb.mono D1.out.size))
          have A2 := Lib.hid hA'
          have E2 := Lib.hid (E1.out.below hb)
          have X2 := Lib.hid (boxStays X1.out hb)
          clear hP hA' hb A1 D1 E1 X1 k4
          go_wp2_with fail
          refine (lw_put (items t) k (i : Int) u6 w3 E2.out (by rw [sz_items]; have := HZ.out; omega)).mono ?_
          rintro e w4 ⟨v', rfl, hE, hb⟩
          rw [← P1.out.1] at hE
      all_goals
        have D3 : Hid (Below w.heap.size w w4) := Lib.hid (D2.out.trans (hb.mono D2.out.size))
        have A3 := Lib.hid (A2.out.below hb rfl)
        have X3 := Lib.hid (boxStays X2.out hb)
        have E3 := Lib.hid hE
        clear hb hE D2 A2 X2 E2
        have k4 := cell_of_one X3.out
        have f4 := frozen_of_row _ w.heap.size 0 _ _ X3.out
        have Y4 : Hid ((w4.setCell ⟨w.heap.size, 0, none⟩ (.pointer (pa t'))).heap[w.heap.size]? = some (.cells #[.pointer (pa t')] 26 (0, 0))) := Lib.hid (heap_setCell_same w4 w.heap.size 0 _ _ (.pointer (pa t')) X3.out)
        have A4 : Hid (AtI (w4.setCell ⟨w.heap.size, 0, none⟩ (.pointer (pa t'))) t') := Lib.hid (A3.out.setBox X3.out (by decide) 0 _)
        have E4 : Hid (EntAt (w4.setCell ⟨w.heap.size, 0, none⟩ (.pointer (pa t'))) v' (items t')) := Lib.hid (E3.out.setBox X3.out _)
        have D4 : Hid (Below w.heap.size w (w4.setCell ⟨w.heap.size, 0, none⟩ (.pointer (pa t')))) := Lib.hid (D3.out.setCell (p := ⟨w.heap.size, 0, none⟩) (by simp) _)
        clear D3 A3 E3
        go_wp2_with fail
        clear k4 f4 X3
        generalize w4.setCell ⟨w.heap.size, 0, none⟩ (.pointer (pa t')) = W5 at *
        obtain ⟨wo, rfl⟩ : ∃ wo : World, wo = wr := ⟨_, rfl⟩
        obtain ⟨q, hq⟩ : ∃ q, ht t' = q := ⟨_, rfl⟩
        have HQ := Lib.hid hq
        have hfq := bal_fib t' P1.out.2.1
        rw [hq] at hfq
        clear hq
        go_loopw [9, 10, 11] (fun fa fb fh wq => ∃ j : Nat, fa = .int .i64 (fibF j : Int) ∧ fb = .int .i64 (fibF (j + 1) : Int) ∧ fh = .int .i64 (j : Int) ∧ j ≤ q ∧ Hid (wq.heap[w.heap.size]? = some (.cells #[.pointer (pa t')] 26 (0, 0))) ∧ Hid (AtI wq t') ∧ Hid (EntAt wq v' (items t')) ∧ Hid (Below w.heap.size w wq)) (fun _ _ fh _ => q - (intOf fh).toNat)
        case atStart => exact ⟨0, rfl, rfl, rfl, Nat.zero_le _, Y4, A4, E4, D4⟩
        case round =>
          clear Y4 A4 E4 D4
          obtain ⟨j, rfl, rfl, rfl, hj, X5, A5, E5, D5⟩ := hrel
          have k4 := cell_of_one X5.out
          go_wp2_with fail
          refine (pm_MHeightI t' wr A5.out).mono ?_
          rintro e w6 ⟨rfl, hb⟩
          rw [HQ.out]
          have D6 : Hid (Below w.heap.size w w6) := Lib.hid (D5.out.trans (hb.mono D5.out.size))
          have A6 := Lib.hid (A5.out.below hb rfl)
          have X6 := Lib.hid (boxStays X5.out hb)
          have E6 := Lib.hid (E5.out.below hb)
          clear hb D5 A5 X5 E5 k4
          have hz' := P1.out.2.2.2
          have hqb : q ≤ 400 := by have := ht_le t'; rw [HQ.out] at this; omega
          by_cases hjq : j < q
          · have hji : (j : Int) < (q : Int) := by omega
            have hf : fibF (j + 2) ≤ fibF (q + 1) := fibF_mono (by omega)
            have hfe : fibF (j + 2) = fibF j + fibF (j + 1) := rfl
            have HFE : Hid ((fibF (j + 1 + 1) : Int) = (fibF j : Int) + (fibF (j + 1) : Int)) := Lib.hid (by show ((fibF j + fibF (j + 1) : Nat) : Int) = _; omega)
            go_wp2_with fail
            go_roundw
            case rel => exact ⟨j + 1, rfl, by rw [HFE.out], rfl, by omega, X6, A6, E6, D6⟩
            case measure =>
              have p1 : (intOf (Value.int .i64 ((j : Int) + 1))).toNat = j + 1 := by simp [intOf]
              have p2 : (intOf (Value.int .i64 (j : Int))).toNat = j := by simp [intOf]
              first | (rw [p1, p2]; omega) | (simp [intOf]; omega)
          · have hji : ¬ (j : Int) < (q : Int) := by omega
            have hjq2 : q = j := by omega
            subst hjq2
            have k4 := cell_of_one X6.out
            go_wp2_with fail
            refine (pm_MLenI t' w6 A6.out).mono ?_
            rintro e w7 ⟨rfl, hb⟩
            have D7 : Hid (Below w.heap.size w w7) := Lib.hid (D6.out.trans (hb.mono D6.out.size))
            have A7 := Lib.hid (A6.out.below hb rfl)
            have X7 := Lib.hid (boxStays X6.out hb)
            have E7 := Lib.hid (E6.out.below hb)
            clear hb D6 A6 X6 E6 k4
            obtain ⟨a7, cap7, he7, _⟩ := E7.out
            rw [sz_items] at he7
            subst he7
            have k4 := cell_of_one X7.out
            go_wp2_with fail
            refine (pm_MLenI t' w7 A7.out).mono ?_
            rintro e w8 ⟨rfl, hb⟩
            have D8 : Hid (Below w.heap.size w w8) := Lib.hid (D7.out.trans (hb.mono D7.out.size))
            have A8 := Lib.hid (A7.out.below hb rfl)
            have X8 := Lib.hid (boxStays X7.out hb)
            have E8 := Lib.hid (E7.out.below hb)
            clear hb D7 A7 X7 E7 k4
            have hlo : ¬ (sz t' : Int) < (fibF (q + 1) : Int) - 1 := by omega
            go_wp2_with fail
            go_roundw
            case rel =>
              refine ⟨i + 1, t', by simp, by omega, by omega, Lib.hid hz', ?_, A8, Lib.hid ⟨P1.out.2.1, P1.out.2.2.1⟩, X8, D8⟩
              have := E8.out
              rw [← sz_items] at this ⊢
              exact Lib.hid this
            case measure =>
              have p1 : (intOf (Value.int .i64 ((i : Int) + 1))).toNat = i + 1 := by simp [intOf]
              have p2 : (intOf (Value.int .i64 (i : Int))).toNat = i := by simp [intOf]
              first | (rw [p1, p2]; omega) | (simp [intOf]; omega)
    · have hex : n ≤ i ∨ 300 ≤ i := by omega
      have h300 : sz t ≤ 300 := by have := HZ.out; omega
      obtain ⟨a7, cap7, he7, hcap7, hcm7, hc7⟩ := HE.out
      rw [sz_items] at he7 hcap7
      have HC7 := Lib.hid hc7
      subst he7
      have k4 := cell_of_one X0.out
      clear hc7 HE
      refine hex.elim (fun hq => ?ex1) (fun hq => ?ex2) <;> clear hex
      case' ex1 =>
        have hli : ¬ (i : Int) < (n : Int) := by omega
        go_wp2_with fail
      case' ex2 =>
        have hl3 : ¬ (i : Int) < 300 := by omega
        go_wp2_with fail
      all_goals
        refine (lw_tells t a7 cap7 3 ⟨#[]⟩ wr HA.out HS.out.1 HS.out.2 HC7.out (by omega) hcap7).mono ?_
        rintro e w8 ⟨rfl, hb⟩
        have D8 : Hid (Below w.heap.size w w8) := Lib.hid (HB.out.trans (hb.mono HB.out.size))
        clear hb k4
        go_wp2_with fail
        refine (lw_known w8).mono ?_
        rintro e w9 ⟨rfl, hb⟩
        have D9 : Hid (Below w.heap.size w w9) := Lib.hid (D8.out.trans (hb.mono D8.out.size))
        clear hb
        go_wp2_with fail
        go_ret
        exact ⟨rfl, D9.out⟩
end Go.Proofs.Ytikdlhbamdefaaa

