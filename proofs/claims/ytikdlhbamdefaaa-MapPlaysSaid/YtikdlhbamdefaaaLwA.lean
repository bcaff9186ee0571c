
/- Walks: the law's own lists: at, put, take. -/
import Derived.Test.YtikdlhbamdefaaaLw
import Derived.Test.YtikdlhbamdefaaaOver
import Derived.Test.YtikdlhbamdefaaaChn
namespace Go.Proofs.Ytikdlhbamdefaaa
open Go.RowKit Pm
theorem infoEnt : (Try.prog.info? 47).map (fun i => (i.zero, i.size, i.bytes)) = some (some (.agg #[.string ⟨#[]⟩, .int .i64 0]), 2, 24) := by kernel_rfl
theorem entT : ElemT Try.prog 27 47 (.agg #[.string ⟨#[]⟩, .int .i64 0]) 2 24 := ElemT.mk Try.underlying27 infoEnt rfl
set_option maxRecDepth 20000 in
set_option maxHeartbeats 1000000 in
theorem lw_at (l : List (ByteArray × Int)) (k : ByteArray) (a : Option Addr) (cap : Nat) (w : World) (h : CellsAt w a (entV l)) (hl : l.length ≤ 1099511627776) :
    Calls Try.prog 16 #[.slice a l.length cap, .string k] w fun e w' => e = .returned (.tuple #[.int .i64 (posL l k : Int), .bool (isL l k)]) ∧ Below w.heap.size w w' := by
  have H := Lib.hid h; clear h
  obtain ⟨n, hn⟩ : ∃ n, l.length = n := ⟨_, rfl⟩
  have HN := Lib.hid hn
  rw [hn] at hl ⊢
  clear hn
  go_enter Try.func16, Try.ntmps16
  go_wp2_with fail
  go_loopw [6] (fun u wr => ∃ j : Nat, u = .int .i64 (j : Int) ∧ j ≤ n ∧ Hid (∀ x ∈ l.take j, klt x.1 k = true) ∧ Hid (w = wr)) (fun u _ => n - (intOf u).toNat)
  case atStart => exact ⟨0, rfl, Nat.zero_le _, Lib.hid (by simp), Lib.hid rfl⟩
  case round =>
    obtain ⟨j, rfl, hj, HJ, HW⟩ := hrel
    by_cases hlt : j < n
    · have hli : (j : Int) < (n : Int) := by omega
      have hjl : j < l.length := by rw [HN.out]; exact hlt
      obtain ⟨⟨k0, v0⟩, hx⟩ : ∃ x, l[j]'hjl = x := ⟨_, rfl⟩
      obtain ⟨e0, _⟩ := entV_get l j hjl
      rw [hx] at e0
      obtain ⟨b, off, ha, hc⟩ := H.out.get _ _ e0
      subst ha
      have hc' : wr.cell? ⟨b, off + j * 2, none⟩ = some (.string k0) := by rw [← HW.out]; exact hc
      have hnle : ¬ n ≤ j := by omega
      have hdle : decide (n ≤ j) = false := by simp; omega
      have HX : Hid (l[j]? = some (k0, v0)) := Lib.hid (by rw [List.getElem?_eq_getElem hjl, hx])
      clear hc hx e0
      by_cases hk : klt k0 k = true
      · have hk1 : Op.bytesLess k0.toList k.toList = true := hk
        go_wp2_with fail
        refine ⟨⟨j + 1, by simp, by omega, Lib.hid ?_, HW⟩, ?_⟩
        · intro x hx
          rw [List.take_succ_eq_append_getElem hjl] at hx
          rcases List.mem_append.1 hx with hx | hx
          · exact HJ.out x hx
          · have h1 := HX.out
            rw [List.getElem?_eq_getElem hjl] at h1
            rw [List.mem_singleton.1 hx, Option.some.inj h1]; exact hk
        · have q1 : (intOf (Value.int .i64 ((j : Int) + 1))).toNat = j + 1 := by simp [intOf]
          have q2 : (intOf (Value.int .i64 (j : Int))).toNat = j := by simp [intOf]
          rw [q1, q2]; omega
      · have hk1 : Op.bytesLess k0.toList k.toList = false := by simpa [klt] using hk
        have HP : Hid (posL l k = j) := Lib.hid (posL_take l k j (by omega) HJ.out (fun x hx => by rw [HX.out] at hx; cases hx; simpa using hk))
        have HI : Hid (isL l k = (k0.toList == k.toList)) := Lib.hid (by rw [eq_iff]; unfold isL; rw [HP.out, HX.out])
        obtain ⟨q, hq⟩ : ∃ q, (k0.toList == k.toList) = q := ⟨_, rfl⟩
        have HQ := Lib.hid hq
        have HC : Hid (Chain [wr] wr) := Lib.hid (Chain.one wr)
        have C1 := Lib.hid hc'
        have hq0 := hq
        go_wp2_with fail
        clear hc'
        refine wp_region_noPanic ?_
        refine wp_region_held_drew (S := fun w' => Below wr.heap.size wr w') (by kernel_rfl) (Below.refl _ _).drew (fun hS => ?_)
        refine wpAnyH_take (i := 0) (oi := ⟨some 22, _, _, _, _, _⟩) (v := ?_) rfl (by kernel_rfl) (by kernel_rfl) (by kernel_rfl) (fun _ _ _ h => h) (Or.inl ⟨by rfl, ?_⟩) hS ?_
        rotate_left 1
        · intro w' hB; have hd := (HC.out.to wr (by simp)).trans (hB.mono (HC.out.to wr (by simp)).size); have c1 := (hd.cell (p := ⟨b, off + j * 2, none⟩) (block_lt_of_cell C1.out)).trans C1.out; clear hd; have hq0 := hq0; have hnle := hnle; have hdle := hdle; have hli := hli; (go_simp <;> with_reducible rfl)
        try simp only [Act.put, List.setIfInBounds_toArray, List.set_cons_zero, List.set_cons_succ]
        refine wpAnyH_take (i := 1) (oi := ⟨some 23, _, _, _, _, _⟩) (v := ?_) rfl (by kernel_rfl) (by kernel_rfl) (by kernel_rfl) (fun _ _ _ h => h) (Or.inl ⟨by rfl, ?_⟩) hS ?_
        rotate_left 1
        · intro w' hB; have hd := (HC.out.to wr (by simp)).trans (hB.mono (HC.out.to wr (by simp)).size); have c1 := (hd.cell (p := ⟨b, off + j * 2, none⟩) (block_lt_of_cell C1.out)).trans C1.out; clear hd; have hq0 := hq0; have hnle := hnle; have hdle := hdle; have hli := hli; (go_simp <;> with_reducible rfl)
        try simp only [Act.put, List.setIfInBounds_toArray, List.set_cons_zero, List.set_cons_succ]
        refine wpAnyH_take (i := 2) (oi := ⟨some 24, _, _, _, _, _⟩) (v := ?_) rfl (by kernel_rfl) (by kernel_rfl) (by kernel_rfl) (fun _ _ _ h => h) (Or.inl ⟨by rfl, ?_⟩) hS ?_
        rotate_left 1
        · intro w' hB; have hd := (HC.out.to wr (by simp)).trans (hB.mono (HC.out.to wr (by simp)).size); have c1 := (hd.cell (p := ⟨b, off + j * 2, none⟩) (block_lt_of_cell C1.out)).trans C1.out; clear hd; have hq0 := hq0; have hnle := hnle; have hdle := hdle; have hli := hli; (go_simp <;> with_reducible rfl)
        try simp only [Act.put, List.setIfInBounds_toArray, List.set_cons_zero, List.set_cons_succ]
        refine wpAnyH_take (i := 3) (oi := ⟨some 25, _, _, _, _, _⟩) (v := ?_) rfl (by kernel_rfl) (by kernel_rfl) (by kernel_rfl) (fun _ _ _ h => h) (Or.inl ⟨by rfl, ?_⟩) hS ?_
        rotate_left 1
        · intro w' hB; have hd := (HC.out.to wr (by simp)).trans (hB.mono (HC.out.to wr (by simp)).size); have c1 := (hd.cell (p := ⟨b, off + j * 2, none⟩) (block_lt_of_cell C1.out)).trans C1.out; clear hd; have hq0 := hq0; have hnle := hnle; have hdle := hdle; have hli := hli; (go_simp <;> with_reducible rfl)
        try simp only [Act.put, List.setIfInBounds_toArray, List.set_cons_zero, List.set_cons_succ]
        refine wpAnyH_take (i := 4) (oi := ⟨some 26, _, _, _, _, _⟩) (v := ?_) rfl (by kernel_rfl) (by kernel_rfl) (by kernel_rfl) (fun _ _ _ h => h) (Or.inl ⟨by rfl, ?_⟩) hS ?_
        rotate_left 1
        · intro w' hB; have hd := (HC.out.to wr (by simp)).trans (hB.mono (HC.out.to wr (by simp)).size); have c1 := (hd.cell (p := ⟨b, off + j * 2, none⟩) (block_lt_of_cell C1.out)).trans C1.out; clear hd; have hq0 := hq0; have hnle := hnle; have hdle := hdle; have hli := hli; (go_simp <;> with_reducible rfl)
        try simp only [Act.put, List.setIfInBounds_toArray, List.set_cons_zero, List.set_cons_succ]
        refine wpAnyH_take (i := 5) (oi := ⟨some 27, _, _, _, _, _⟩) (v := ?_) rfl (by kernel_rfl) (by kernel_rfl) (by kernel_rfl) (fun _ _ _ h => h) (Or.inl ⟨by rfl, ?_⟩) hS ?_
        rotate_left 1
        · intro w' hB; have hd := (HC.out.to wr (by simp)).trans (hB.mono (HC.out.to wr (by simp)).size); have c1 := (hd.cell (p := ⟨b, off + j * 2, none⟩) (block_lt_of_cell C1.out)).trans C1.out; clear hd; have hq0 := hq0; have hnle := hnle; have hdle := hdle; have hli := hli; (go_simp <;> with_reducible rfl)
        try simp only [Act.put, List.setIfInBounds_toArray, List.set_cons_zero, List.set_cons_succ]
        refine wpAnyH_take (i := 6) (oi := ⟨some 28, _, _, _, _, _⟩) (v := ?_) rfl (by kernel_rfl) (by kernel_rfl) (by kernel_rfl) (fun _ _ _ h => h) (Or.inl ⟨by rfl, ?_⟩) hS ?_
        rotate_left 1
        · intro w' hB; have hd := (HC.out.to wr (by simp)).trans (hB.mono (HC.out.to wr (by simp)).size); have c1 := (hd.cell (p := ⟨b, off + j * 2, none⟩) (block_lt_of_cell C1.out)).trans C1.out; clear hd; have hq0 := hq0; have hnle := hnle; have hdle := hdle; have hli := hli; (go_simp <;> with_reducible rfl)
        try simp only [Act.put, List.setIfInBounds_toArray, List.set_cons_zero, List.set_cons_succ]
        refine wpAnyH_take (i := 7) (oi := ⟨some 29, _, _, _, _, _⟩) (v := ?_) rfl (by kernel_rfl) (by kernel_rfl) (by kernel_rfl) (fun _ _ _ h => h) (Or.inl ⟨by rfl, ?_⟩) hS ?_
        rotate_left 1
        · intro w' hB; have hd := (HC.out.to wr (by simp)).trans (hB.mono (HC.out.to wr (by simp)).size); have c1 := (hd.cell (p := ⟨b, off + j * 2, none⟩) (block_lt_of_cell C1.out)).trans C1.out; clear hd; have hq0 := hq0; have hnle := hnle; have hdle := hdle; have hli := hli; (go_simp <;> with_reducible rfl)
        try simp only [Act.put, List.setIfInBounds_toArray, List.set_cons_zero, List.set_cons_succ]
        refine wpAnyH_take (i := 8) (oi := ⟨some 30, _, _, _, _, _⟩) (v := ?_) rfl (by kernel_rfl) (by kernel_rfl) (by kernel_rfl) (fun _ _ _ h => h) (Or.inl ⟨by rfl, ?_⟩) hS ?_
        rotate_left 1
        · intro w' hB; have hd := (HC.out.to wr (by simp)).trans (hB.mono (HC.out.to wr (by simp)).size); have c1 := (hd.cell (p := ⟨b, off + j * 2, none⟩) (block_lt_of_cell C1.out)).trans C1.out; clear hd; have hq0 := hq0; have hnle := hnle; have hdle := hdle; have hli := hli; (go_simp <;> with_reducible rfl)
        try simp only [Act.put, List.setIfInBounds_toArray, List.set_cons_zero, List.set_cons_succ]
        refine wpAnyH_take (i := 9) (oi := ⟨some 31, _, _, _, _, _⟩) (v := ?_) rfl (by kernel_rfl) (by kernel_rfl) (by kernel_rfl) (fun _ _ _ h => h) (Or.inl ⟨by rfl, ?_⟩) hS ?_
        rotate_left 1
        · intro w' hB; have hd := (HC.out.to wr (by simp)).trans (hB.mono (HC.out.to wr (by simp)).size); have c1 := (hd.cell (p := ⟨b, off + j * 2, none⟩) (block_lt_of_cell C1.out)).trans C1.out; clear hd; have hq0 := hq0; have hnle := hnle; have hdle := hdle; have hli := hli; (go_simp <;> with_reducible rfl)
        try simp only [Act.put, List.setIfInBounds_toArray, List.set_cons_zero, List.set_cons_succ]
        refine wpAnyH_take (i := 10) (oi := ⟨some 32, _, _, _, _, _⟩) (v := ?_) rfl (by kernel_rfl) (by kernel_rfl) (by kernel_rfl) (fun _ _ _ h => h) (Or.inl ⟨by rfl, ?_⟩) hS ?_
        rotate_left 1
        · intro w' hB; have hd := (HC.out.to wr (by simp)).trans (hB.mono (HC.out.to wr (by simp)).size); have c1 := (hd.cell (p := ⟨b, off + j * 2, none⟩) (block_lt_of_cell C1.out)).trans C1.out; clear hd; have hq0 := hq0; have hnle := hnle; have hdle := hdle; have hli := hli; (go_simp <;> with_reducible rfl)
        try simp only [Act.put, List.setIfInBounds_toArray, List.set_cons_zero, List.set_cons_succ]
        refine wpAnyH_take (i := 11) (oi := ⟨some 33, _, _, _, _, _⟩) (v := ?_) rfl (by kernel_rfl) (by kernel_rfl) (by kernel_rfl) (fun _ _ _ h => h) (Or.inl ⟨by rfl, ?_⟩) hS ?_
        rotate_left 1
        · intro w' hB; have hd := (HC.out.to wr (by simp)).trans (hB.mono (HC.out.to wr (by simp)).size); have c1 := (hd.cell (p := ⟨b, off + j * 2, none⟩) (block_lt_of_cell C1.out)).trans C1.out; clear hd; have hq0 := hq0; have hnle := hnle; have hdle := hdle; have hli := hli; (go_simp <;> with_reducible rfl)
        try simp only [Act.put, List.setIfInBounds_toArray, List.set_cons_zero, List.set_cons_succ]
        refine wpAnyH_take (i := 12) (oi := ⟨some 34, _, _, _, _, _⟩) (v := ?_) rfl (by kernel_rfl) (by kernel_rfl) (by kernel_rfl) (fun _ _ _ h => h) (Or.inl ⟨by rfl, ?_⟩) hS ?_
        rotate_left 1
        · intro w' hB; have hd := (HC.out.to wr (by simp)).trans (hB.mono (HC.out.to wr (by simp)).size); have c1 := (hd.cell (p := ⟨b, off + j * 2, none⟩) (block_lt_of_cell C1.out)).trans C1.out; clear hd; have hq0 := hq0; have hnle := hnle; have hdle := hdle; have hli := hli; (go_simp <;> with_reducible rfl)
        try simp only [Act.put, List.setIfInBounds_toArray, List.set_cons_zero, List.set_cons_succ]
        refine wpAnyH_take (i := 13) (oi := ⟨some 35, _, _, _, _, _⟩) (v := ?_) rfl (by kernel_rfl) (by kernel_rfl) (by kernel_rfl) (fun _ _ _ h => h) (Or.inl ⟨by rfl, ?_⟩) hS ?_
        rotate_left 1
        · intro w' hB; have hd := (HC.out.to wr (by simp)).trans (hB.mono (HC.out.to wr (by simp)).size); have c1 := (hd.cell (p := ⟨b, off + j * 2, none⟩) (block_lt_of_cell C1.out)).trans C1.out; clear hd; have hq0 := hq0; have hnle := hnle; have hdle := hdle; have hli := hli; (go_simp <;> with_reducible rfl)
        try simp only [Act.put, List.setIfInBounds_toArray, List.set_cons_zero, List.set_cons_succ]
        refine wpAnyH_take (i := 14) (oi := ⟨some 4, _, _, _, _, _⟩) (v := ?_) rfl (by kernel_rfl) (by kernel_rfl) (by kernel_rfl) (fun _ _ _ h => h) (Or.inl ⟨by rfl, ?_⟩) hS ?_
        rotate_left 1
        · intro w' hB; have hd := (HC.out.to wr (by simp)).trans (hB.mono (HC.out.to wr (by simp)).size); have c1 := (hd.cell (p := ⟨b, off + j * 2, none⟩) (block_lt_of_cell C1.out)).trans C1.out; clear hd; have hq0 := hq0; have hnle := hnle; have hdle := hdle; have hli := hli; (go_simp <;> with_reducible rfl)
        try simp only [Act.put, List.setIfInBounds_toArray, List.set_cons_zero, List.set_cons_succ]
        refine wpAnyH_take (i := 15) (oi := ⟨some 5, _, _, _, _, _⟩) (v := ?_) rfl (by kernel_rfl) (by kernel_rfl) (by kernel_rfl) (fun _ _ _ h => h) (Or.inl ⟨by rfl, ?_⟩) hS ?_
        rotate_left 1
        · intro w' hB; have hd := (HC.out.to wr (by simp)).trans (hB.mono (HC.out.to wr (by simp)).size); have c1 := (hd.cell (p := ⟨b, off + j * 2, none⟩) (block_lt_of_cell C1.out)).trans C1.out; clear hd; have hq0 := hq0; have hnle := hnle; have hdle := hdle; have hli := hli; (go_simp <;> with_reducible rfl)
        try simp only [Act.put, List.setIfInBounds_toArray, List.set_cons_zero, List.set_cons_succ]
        refine wpAnyH_done (by kernel_rfl) (NoPanic.normal ?_) _
        clear hq hq0
        go_wp2_with fail
        go_ret2
        rw [HP.out, HI.out, HQ.out, HW.out]
        exact ⟨rfl, hS⟩
    · have hli : ¬ (j : Int) < (n : Int) := by omega
      have hjn : j = n := by omega
      subst hjn
      have HP : Hid (posL l k = j) := Lib.hid (posL_take l k j (by rw [HN.out]; exact Nat.le_refl _) HJ.out (fun x hx => by rw [← HN.out] at hx; simp at hx))
      have HI : Hid (isL l k = false) := Lib.hid (by unfold isL; rw [HP.out, ← HN.out]; simp)
      have hne : ¬ j < j := by omega
      have hdle : decide (j < j) = false := by simp
      go_wp2_with fail
      refine wp_region_noPanic ?_
      refine wp_region_held_drew (S := fun w' => Below wr.heap.size wr w') (by kernel_rfl) (Below.refl _ _).drew (fun hS => ?_)
      refine wpAnyH_take (i := 0) (oi := ⟨some 22, _, _, _, _, _⟩) (v := ?_) rfl (by kernel_rfl) (by kernel_rfl) (by kernel_rfl) (fun _ _ _ h => h) (Or.inl ⟨by rfl, ?_⟩) hS ?_
      rotate_left 1
      · intro w' hB; have hdle := hdle; (go_simp <;> with_reducible rfl)
      try simp only [Act.put, List.setIfInBounds_toArray, List.set_cons_zero, List.set_cons_succ]
      refine wpAnyH_take (i := 1) (oi := ⟨some 23, _, _, _, _, _⟩) (v := ?_) rfl (by kernel_rfl) (by kernel_rfl) (by kernel_rfl) (fun _ _ _ h => h) (Or.inl ⟨by rfl, ?_⟩) hS ?_
      rotate_left 1
      · intro w' hB; have hdle := hdle; (go_simp <;> with_reducible rfl)
      try simp only [Act.put, List.setIfInBounds_toArray, List.set_cons_zero, List.set_cons_succ]
      refine wpAnyH_take (i := 2) (oi := ⟨some 24, _, _, _, _, _⟩) (v := ?_) rfl (by kernel_rfl) (by kernel_rfl) (by kernel_rfl) (fun _ _ _ h => h) (Or.inl ⟨by rfl, ?_⟩) hS ?_
      rotate_left 1
      · intro w' hB; have hdle := hdle; (go_simp <;> with_reducible rfl)
      try simp only [Act.put, List.setIfInBounds_toArray, List.set_cons_zero, List.set_cons_succ]
      refine wpAnyH_take (i := 3) (oi := ⟨some 25, _, _, _, _, _⟩) (v := ?_) rfl (by kernel_rfl) (by kernel_rfl) (by kernel_rfl) (fun _ _ _ h => h) (Or.inl ⟨by rfl, ?_⟩) hS ?_
      rotate_left 1
      · intro w' hB; have hdle := hdle; (go_simp <;> with_reducible rfl)
      try simp only [Act.put, List.setIfInBounds_toArray, List.set_cons_zero, List.set_cons_succ]
      refine wpAnyH_take (i := 4) (oi := ⟨some 26, _, _, _, _, _⟩) (v := ?_) rfl (by kernel_rfl) (by kernel_rfl) (by kernel_rfl) (fun _ _ _ h => h) (Or.inl ⟨by rfl, ?_⟩) hS ?_
      rotate_left 1
      · intro w' hB; have hdle := hdle; (go_simp <;> with_reducible rfl)
      try simp only [Act.put, List.setIfInBounds_toArray, List.set_cons_zero, List.set_cons_succ]
      refine wpAnyH_take (i := 5) (oi := ⟨some 27, _, _, _, _, _⟩) (v := ?_) rfl (by kernel_rfl) (by kernel_rfl) (by kernel_rfl) (fun _ _ _ h => h) (Or.inl ⟨by rfl, ?_⟩) hS ?_
      rotate_left 1
      · intro w' hB; have hdle := hdle; (go_simp <;> with_reducible rfl)
      try simp only [Act.put, List.setIfInBounds_toArray, List.set_cons_zero, List.set_cons_succ]
      refine wpAnyH_take (i := 6) (oi := ⟨some 28, _, _, _, _, _⟩) rfl (by kernel_rfl) (by kernel_rfl) (by kernel_rfl) (fun _ _ _ h => h) (Or.inr ⟨by rfl, rfl⟩) hS ?_
      try simp only [Act.put, List.setIfInBounds_toArray, List.set_cons_zero, List.set_cons_succ]
      refine wpAnyH_take (i := 7) (oi := ⟨some 29, _, _, _, _, _⟩) rfl (by kernel_rfl) (by kernel_rfl) (by kernel_rfl) (fun _ _ _ h => h) (Or.inr ⟨by rfl, rfl⟩) hS ?_
      try simp only [Act.put, List.setIfInBounds_toArray, List.set_cons_zero, List.set_cons_succ]
      refine wpAnyH_take (i := 8) (oi := ⟨some 30, _, _, _, _, _⟩) rfl (by kernel_rfl) (by kernel_rfl) (by kernel_rfl) (fun _ _ _ h => h) (Or.inr ⟨by rfl, rfl⟩) hS ?_
      try simp only [Act.put, List.setIfInBounds_toArray, List.set_cons_zero, List.set_cons_succ]
      refine wpAnyH_take (i := 9) (oi := ⟨some 31, _, _, _, _, _⟩) rfl (by kernel_rfl) (by kernel_rfl) (by kernel_rfl) (fun _ _ _ h => h) (Or.inr ⟨by rfl, rfl⟩) hS ?_
      try simp only [Act.put, List.setIfInBounds_toArray, List.set_cons_zero, List.set_cons_succ]
      refine wpAnyH_take (i := 10) (oi := ⟨some 32, _, _, _, _, _⟩) rfl (by kernel_rfl) (by kernel_rfl) (by kernel_rfl) (fun _ _ _ h => h) (Or.inr ⟨by rfl, rfl⟩) hS ?_
      try simp only [Act.put, List.setIfInBounds_toArray, List.set_cons_zero, List.set_cons_succ]
      refine wpAnyH_take (i := 11) (oi := ⟨some 33, _, _, _, _, _⟩) rfl (by kernel_rfl) (by kernel_rfl) (by kernel_rfl) (fun _ _ _ h => h) (Or.inr ⟨by rfl, rfl⟩) hS ?_
      try simp only [Act.put, List.setIfInBounds_toArray, List.set_cons_zero, List.set_cons_succ]
      refine wpAnyH_take (i := 12) (oi := ⟨some 34, _, _, _, _, _⟩) rfl (by kernel_rfl) (by kernel_rfl) (by kernel_rfl) (fun _ _ _ h => h) (Or.inr ⟨by rfl, rfl⟩) hS ?_
      try simp only [Act.put, List.setIfInBounds_toArray, List.set_cons_zero, List.set_cons_succ]
      refine wpAnyH_take (i := 13) (oi := ⟨some 35, _, _, _, _, _⟩) (v := ?_) rfl (by kernel_rfl) (by kernel_rfl) (by kernel_rfl) (fun _ _ _ h => h) (Or.inl ⟨by rfl, ?_⟩) hS ?_
      rotate_left 1
      · intro w' hB; have hdle := hdle; (go_simp <;> with_reducible rfl)
      try simp only [Act.put, List.setIfInBounds_toArray, List.set_cons_zero, List.set_cons_succ]
      refine wpAnyH_take (i := 14) (oi := ⟨some 4, _, _, _, _, _⟩) (v := ?_) rfl (by kernel_rfl) (by kernel_rfl) (by kernel_rfl) (fun _ _ _ h => h) (Or.inl ⟨by rfl, ?_⟩) hS ?_
      rotate_left 1
      · intro w' hB; have hdle := hdle; (go_simp <;> with_reducible rfl)
      try simp only [Act.put, List.setIfInBounds_toArray, List.set_cons_zero, List.set_cons_succ]
      refine wpAnyH_take (i := 15) (oi := ⟨some 5, _, _, _, _, _⟩) (v := ?_) rfl (by kernel_rfl) (by kernel_rfl) (by kernel_rfl) (fun _ _ _ h => h) (Or.inl ⟨by rfl, ?_⟩) hS ?_
      rotate_left 1
      · intro w' hB; have hdle := hdle; (go_simp <;> with_reducible rfl)
      try simp only [Act.put, List.setIfInBounds_toArray, List.set_cons_zero, List.set_cons_succ]
      refine wpAnyH_done (by kernel_rfl) (NoPanic.normal ?_) _
      go_wp2_with fail
      go_ret2
      rw [HP.out, HI.out, HW.out]
      exact ⟨rfl, hS⟩
/-- A slice of entries, in memory. -/
def EntAt (w : World) (v : Value) (l : List (ByteArray × Int)) : Prop := ∃ a cap, v = .slice a l.length cap ∧ l.length ≤ cap ∧ cap ≤ maxLen ∧ CellsAt w a (entV l)
theorem EntAt.below {w w' : World} {v : Value} {l : List (ByteArray × Int)} (h : EntAt w v l) (hb : Below w.heap.size w w') : EntAt w' v l := by
  obtain ⟨a, cap, h1, h2, h4, h3⟩ := h
  exact ⟨a, cap, h1, h2, h4, h3.below hb rfl⟩
theorem EntAt.own {w : World} {base n : Nat} {e : TypeId} {v : Value} {l : List (ByteArray × Int)} (h : w.ownsRow base e 2 v n (entV l)) : EntAt w v l := by
  have hlen := h.1
  rw [entV_length] at hlen
  obtain ⟨a, cap, rfl, h1, h2⟩ := own_slice h
  obtain rfl : n = l.length := by omega
  refine ⟨a, cap, rfl, h1, h2, ?_⟩
  rcases h.2 with ⟨hv, hn⟩ | ⟨g, cap', cur, hv, hb, hg, hnc, _, hcs, ht⟩
  · have : l = [] := List.eq_nil_of_length_eq_zero hn
    subst this; exact CellsAt.nil _ _
  · simp only [Value.slice.injEq] at hv
    obtain ⟨rfl, _, rfl⟩ := hv
    intro i hi
    refine ⟨g, 0, rfl, ?_⟩
    rw [Nat.zero_add, cell_of_row w g i cur e _ hg]
    have : (entV l)[i]? = some (entV l)[i] := List.getElem?_eq_getElem hi
    have h2 : (List.take (l.length * 2) cur.toList)[i]? = some (entV l)[i] := by rw [ht]; exact this
    rw [List.getElem?_take] at h2
    split at h2
    · simpa using h2
    · cases h2
set_option maxRecDepth 20000 in
set_option maxHeartbeats 1000000 in
theorem lw_put (l : List (ByteArray × Int)) (k : ByteArray) (v : Int) (va : Value) (w : World) (h : EntAt w va l) (hl : l.length ≤ 1073741824) :
    Calls Try.prog 10 #[va, .string k, .int .i64 v] w fun e w' => ∃ v', e = .returned v' ∧ EntAt w' v' (ins k v l) ∧ Below w.heap.size w w' := by
  obtain ⟨a, cap, rfl, hcap, hcm, hc⟩ := h
  have ET := Lib.hid entT
  have H := Lib.hid hc; clear hc
  have hpl := posL_le l k
  have HP := Lib.hid (ins_pos l k v)
  obtain ⟨p, hp⟩ : ∃ p, posL l k = p := ⟨_, rfl⟩
  obtain ⟨q, hq⟩ : ∃ q, isL l k = q := ⟨_, rfl⟩
  have AT := fun (W : World) (hb : Below w.heap.size w W) => lw_at l k a cap W (H.out.below hb rfl) (by omega)
  rw [hp, hq] at AT HP
  rw [hp] at hpl
  have hpi : q = true → p < l.length := by
    intro h; subst h
    obtain ⟨x, hx⟩ := isL_true hq
    rw [hp] at hx
    exact (List.getElem?_eq_some_iff.1 hx).1
  have HPI := Lib.hid hpi
  have HAT := Lib.hid AT
  clear hp hq AT hpi
  obtain ⟨n, hn⟩ : ∃ n, l.length = n := ⟨_, rfl⟩
  have HN := Lib.hid hn
  rw [hn] at hpl hcap hl HAT HPI ⊢
  clear hn
  unfold maxLen at hcm
  obtain ⟨r, hr⟩ : ∃ r : Nat, r = if q then p + 1 else p := ⟨_, rfl⟩
  have hrn : r ≤ n := by rw [hr]; split; exact HPI.out ‹_›; exact hpl
  have HRR : Hid (ins k v l = l.take p ++ (k, v) :: l.drop r) := Lib.hid (by rw [HP.out, hr])
  have hsl := fun (W : World) (x : Int) (hx : x = (r : Int)) => run_from (P := Try.prog) W 27 47 Try.underlying27 2 (fun w => by kernel_rfl) a n cap r x hx hrn
  obtain ⟨ar, har⟩ : ∃ ar, subN a cap r 2 = ar := ⟨_, rfl⟩
  have HAR := Lib.hid har
  rw [har] at hsl
  have hs3 : ∀ (W : World), Below w.heap.size w W → Src Try.prog 2 27 (.slice ar (n - r) (cap - r)) (n - r) (entV (l.drop r)) W := by
    intro W hb
    have h1 := (H.out.below hb rfl).from (size := 2) (len := n) (by rw [entV_length, HN.out]) cap r hrn hcap
    rw [HAR.out, ← entV_drop] at h1
    exact h1.src (by rw [entV_length, List.length_drop, HN.out]) (entV_one _) Try.underlying27 _ (Or.inr rfl)
  have SR3 := Lib.hid hs3
  have hsr : ∀ (W : World), (Instr.slice 27 (.slice a n cap) (some (.int .i64 (r : Int))) none none).run Try.prog W = .ok (.slice ar (n - r) (cap - r)) W := fun W => hsl W _ rfl
  clear hsl hs3 har
  cases q
  case' false =>
    have hrp : p = r := hr.symm
    subst hrp
  case' true =>
    have hrp : r = p + 1 := hr
    subst hrp
    have hsr1 : ∀ (W : World), (Instr.slice 27 (.slice a n cap) (some (.int .i64 ((p : Int) + 1))) none none).run Try.prog W = .ok (.slice ar (n - (p + 1)) (cap - (p + 1))) W := fun W => by have := hsr W; simpa using this
  all_goals
  clear hr HP
  go_enter Try.func10, Try.ntmps10
  go_wp2_with fail
  refine (HAT.out w (Below.refl _ _)).mono ?_
  rintro e w1 ⟨rfl, hb⟩
  have D1 := Lib.hid hb
  clear hb
  go_wp2_with (first
    | (at_builtin; refine wpList_app rfl _ _ 27 27 rfl w.heap.size 47 (.agg #[.string ⟨#[]⟩, .int .i64 0]) 2 24 ET.out v2 (p + 1) (entV (l.take p ++ [(k, v)])) rfl O2.out _ _ _ rfl (SR3.out _ D2.out) (by omega) (by omega) (by have := D2.out.size; omega) ?_; intro v3 w4 hown _ hb _; have O3 := Lib.hid hown; have D3 := Lib.hid (D2.out.trans hb); clear hown hb)
    | (at_builtin; refine wpList_app rfl _ _ 27 27 rfl w.heap.size 47 (.agg #[.string ⟨#[]⟩, .int .i64 0]) 2 24 ET.out v1 p (entV (l.take p)) rfl (O1.out.alloc _) _ 1 [.string k, .int .i64 v] rfl ((CellsAt.new w2 47 (0, 0) [.string k, .int .i64 v]).src rfl (by simp [Value.oneCell']) Try.underlying27 1 (Or.inr rfl)) (by omega) (by omega) (by have := D4.out.size; simp; omega) ?_; intro v2 w3 hown _ hb _; have O2 : Hid (w3.ownsRow w.heap.size 47 2 v2 (p + 1) (entV (l.take p ++ [(k, v)]))) := Lib.hid (by rw [entV_append]; exact hown); have D2 := Lib.hid ((D4.out.alloc D4.out.size (.cells #[.string k, .int .i64 v] 47)).trans hb); clear hown hb)
    | (at_builtin; refine wpList_app rfl _ _ 27 27 rfl w.heap.size 47 (.agg #[.string ⟨#[]⟩, .int .i64 0]) 2 24 ET.out (.slice none 0 0) 0 [] rfl (World.ownsRow_nil _ _ _ _) _ p (entV (l.take p)) rfl (by have h1 := (H.out.below D1.out rfl).take (p * 2); rw [← entV_take] at h1; exact h1.src (by rw [entV_length, List.length_take, HN.out]; congr 1; omega) (entV_one _) Try.underlying27 cap (Or.inr rfl)) (by omega) (by omega) D1.out.size ?_; intro v1 w2 hown _ hb _; rw [Nat.zero_add, List.nil_append] at hown; have O1 := Lib.hid hown; have D4 := Lib.hid (D1.out.trans hb); clear hown hb)
    | fail)
  go_ret
  refine ⟨v3, rfl, ?_, D3.out⟩
  rw [HRR.out]
  have := O3.out
  rw [← entV_append] at this
  exact EntAt.own (by simpa using this)
set_option maxRecDepth 20000 in
set_option maxHeartbeats 1000000 in
theorem lw_take (l : List (ByteArray × Int)) (k : ByteArray) (va : Value) (w : World) (h : EntAt w va l) (hl : l.length ≤ 1073741824) (hs : Srt l) :
    Calls Try.prog 8 #[va, .string k] w fun e w' => ∃ v', e = .returned v' ∧ EntAt w' v' (del k l) ∧ Below w.heap.size w w' := by
  have HE := Lib.hid h
  obtain ⟨a, cap, rfl, hcap, hcm, hc⟩ := h
  have ET := Lib.hid entT
  have H := Lib.hid hc; clear hc
  have hpl := posL_le l k
  obtain ⟨p, hp⟩ : ∃ p, posL l k = p := ⟨_, rfl⟩
  obtain ⟨q, hq⟩ : ∃ q, isL l k = q := ⟨_, rfl⟩
  have AT := fun (W : World) (hb : Below w.heap.size w W) => lw_at l k a cap W (H.out.below hb rfl) (by omega)
  have HP : Hid (del k l = if q then l.take p ++ l.drop (p + 1) else l) := Lib.hid (by
    by_cases hi : isL l k = true
    · rw [if_pos (by rw [← hq]; exact hi), del_pos hs hi, hp]
    · rw [if_neg (by rw [← hq]; exact hi)]
      exact del_none (isL_false hs (by simpa using hi)))
  rw [hp, hq] at AT
  rw [hp] at hpl
  have hpi : q = true → p + 1 ≤ l.length := by
    intro h; subst h
    obtain ⟨x, hx⟩ := isL_true hq
    rw [hp] at hx
    exact (List.getElem?_eq_some_iff.1 hx).1
  have HAT := Lib.hid AT
  clear hp hq AT
  obtain ⟨n, hn⟩ : ∃ n, l.length = n := ⟨_, rfl⟩
  have HN := Lib.hid hn
  rw [hn] at hpl hcap hl HAT hpi HE ⊢
  clear hn
  unfold maxLen at hcm
  cases q
  · clear hpi
    go_enter Try.func8, Try.ntmps8
    go_wp2_with fail
    refine (HAT.out w (Below.refl _ _)).mono ?_
    rintro e w1 ⟨rfl, hb⟩
    have D1 := Lib.hid hb
    clear hb
    go_wp2_with fail
    go_ret
    refine ⟨_, rfl, ?_, D1.out⟩
    rw [HP.out]
    exact HE.out.below D1.out
  · have hrn : p + 1 ≤ n := hpi rfl
    clear hpi
    have HRR : Hid (del k l = l.take p ++ l.drop (p + 1)) := Lib.hid (by rw [HP.out]; rfl)
    have hsl := fun (W : World) (x : Int) (hx : x = ((p + 1 : Nat) : Int)) => run_from (P := Try.prog) W 27 47 Try.underlying27 2 (fun w => by kernel_rfl) a n cap (p + 1) x hx hrn
    obtain ⟨ar, har⟩ : ∃ ar, subN a cap (p + 1) 2 = ar := ⟨_, rfl⟩
    have HAR := Lib.hid har
    rw [har] at hsl
    have hs3 : ∀ (W : World), Below w.heap.size w W → Src Try.prog 2 27 (.slice ar (n - (p + 1)) (cap - (p + 1))) (n - (p + 1)) (entV (l.drop (p + 1))) W := by
      intro W hb
      have h1 := (H.out.below hb rfl).from (size := 2) (len := n) (by rw [entV_length, HN.out]) cap (p + 1) hrn hcap
      rw [HAR.out, ← entV_drop] at h1
      exact h1.src (by rw [entV_length, List.length_drop, HN.out]) (entV_one _) Try.underlying27 _ (Or.inr rfl)
    have SR3 := Lib.hid hs3
    have hsr1 : ∀ (W : World), (Instr.slice 27 (.slice a n cap) (some (.int .i64 ((p : Int) + 1))) none none).run Try.prog W = .ok (.slice ar (n - (p + 1)) (cap - (p + 1))) W := fun W => hsl W _ (by simp)
    clear hsl hs3 har HP HE
    go_enter Try.func8, Try.ntmps8
    go_wp2_with fail
    refine (HAT.out w (Below.refl _ _)).mono ?_
    rintro e w1 ⟨rfl, hb⟩
    have D1 := Lib.hid hb
    clear hb
    go_wp2_with (first
      | (at_builtin; refine wpList_app rfl _ _ 27 27 rfl w.heap.size 47 (.agg #[.string ⟨#[]⟩, .int .i64 0]) 2 24 ET.out v1 p (entV (l.take p)) rfl O1.out _ _ _ rfl (SR3.out _ D4.out) (by omega) (by omega) (by have := D4.out.size; omega) ?_; intro v3 w4 hown _ hb _; have O3 := Lib.hid hown; have D3 := Lib.hid (D4.out.trans hb); clear hown hb)
      | (at_builtin; refine wpList_app rfl _ _ 27 27 rfl w.heap.size 47 (.agg #[.string ⟨#[]⟩, .int .i64 0]) 2 24 ET.out (.slice none 0 0) 0 [] rfl (World.ownsRow_nil _ _ _ _) _ p (entV (l.take p)) rfl (by have h1 := (H.out.below D1.out rfl).take (p * 2); rw [← entV_take] at h1; exact h1.src (by rw [entV_length, List.length_take, HN.out]; congr 1; omega) (entV_one _) Try.underlying27 cap (Or.inr rfl)) (by omega) (by omega) D1.out.size ?_; intro v1 w2 hown _ hb _; rw [Nat.zero_add, List.nil_append] at hown; have O1 := Lib.hid hown; have D4 := Lib.hid (D1.out.trans hb); clear hown hb)
      | fail)
    go_ret
    refine ⟨v3, rfl, ?_, D3.out⟩
    rw [HRR.out]
    have := O3.out
    rw [← entV_append] at this
    exact EntAt.own this
end Go.Proofs.Ytikdlhbamdefaaa

