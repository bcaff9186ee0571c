/- The walk of the law WireWrites. -/
import Derived.Test.YtbgnkdbbkkoinaaWireW5
import Derived.Test.YtbgnkdbbkkoinaaOver
namespace Go.Proofs.Ytbgnkdbbkkoinaa
open Go.RowKit Wire
theorem own_keepA {w w' : World} {base size n : Nat} {e : TypeId} {v : Value} {xs : List Value} {vb : Option Nat} (h : w.ownsRow base e size v n xs) (hg : w.grownBy w' vb) (hu : ∀ k, vb = some k → k < base) : w'.ownsRow base e size v n xs :=
  own_grown h hg fun k hk e => by have := hu k e; have := (h.lt k hk).1; omega
theorem own_keepB {w w' : World} {base size n : Nat} {e : TypeId} {v : Value} {xs : List Value} {vb : Option Nat} (h : w.ownsRow base e size v n xs) (hg : w.grownBy w' vb) (m : Nat) (hu : ∀ k, v.ownBlock = some k → k < m) (hl : ∀ k, vb = some k → m ≤ k) : w'.ownsRow base e size v n xs :=
  own_grown h hg fun k hk e => by have := hl k e; have := hu k hk; omega
theorem below_keep {w w' W : World} {B : Nat} {vb : Option Nat} (h : Below B W w) (hg : w.grownBy w' vb) (hB : B ≤ w.heap.size) (hl : ∀ k, vb = some k → B ≤ k) : Below B W w' := h.grown hg hB hl
theorem drop_take_flat (ll : List (List UInt8)) (k : Nat) (h : k < ll.length) : (ll.flatten.drop (ll.take k).flatten.length).take ll[k].length = ll[k] := by
  have e : ll.flatten = (ll.take k).flatten ++ (ll.drop k).flatten := by rw [← List.flatten_append, List.take_append_drop]
  rw [e, List.drop_left, List.drop_eq_getElem_cons h, List.flatten_cons, List.take_left]
theorem own_bytesN {w : World} {base n : Nat} {e : TypeId} {v : Value} {l : List UInt8} (h : w.ownsRow base e 1 v n (bvs l)) : ∃ a n' cap, v = .slice a n' cap ∧ n' = l.length ∧ BytesAt w a l := by
  obtain ⟨a, cap, rfl, _, _⟩ := own_slice h
  exact ⟨a, n, cap, rfl, by have := h.1; simpa [bvs] using this.symm, own_bytes h⟩
theorem box4 {W w' : World} {g : Nat} {t : TypeId} {fr : Nat × Nat} {x0 x1 x2 x3 : Value} (h : W.heap[g]? = some (.cells #[x0, x1, x2, x3] t fr)) (hB : Below W.heap.size W w') :
    w'.cell? ⟨g, 0, none⟩ = some x0 ∧ w'.cell? ⟨g, 1, none⟩ = some x1 ∧ w'.cell? ⟨g, 2, none⟩ = some x2 ∧ w'.cell? ⟨g, 3, none⟩ = some x3 := by
  have h' := (hB.block g (Array.getElem?_eq_some_iff.1 h).1).trans h
  exact ⟨cell_of_row _ _ _ _ _ _ h', cell_of_row _ _ _ _ _ _ h', cell_of_row _ _ _ _ _ _ h', cell_of_row _ _ _ _ _ _ h'⟩
theorem boxStays {W w' : World} {g : Nat} {o : Obj} (h : W.heap[g]? = some o) (hB : Below W.heap.size W w') : w'.heap[g]? = some o :=
  (hB.block g (Array.getElem?_eq_some_iff.1 h).1).trans h
set_option maxRecDepth 100000 in
set_option maxHeartbeats 1000000 in
theorem writes_walk (N : Nat) (S : Int) (F : Bool) (B : List UInt8) (a0 : Option Addr) (cap0 : Nat) (ll : List (List UInt8)) (a : Option Addr) (cap : Nat) (w : World) (hN : N < 18446744073709551616) (hS1 : -9223372036854775808 ≤ S) (hS2 : S ≤ 9223372036854775807)
    (hB : BytesAt w a0 B) (hBl : B.length ≤ 1048576) (hl : ListsAt w a ll) (hlen : ll.length ≤ 1048576) (hsum : ll.flatten.length ≤ 1048576) :
    Calls Try.prog 3 #[.agg #[.int .u64 N, .int .i64 S, .bool F, .slice a0 B.length cap0], .slice a ll.length cap] w fun e w' => e = .returned (.bool true) ∧ Below w.heap.size w w' := by
  have BT := Lib.hid byteT
  have HL := Lib.hid hl; clear hl
  have HBy := Lib.hid hB; clear hB
  go_enter Try.func3, Try.ntmps3
  have D0 := below_new w (.cells #[.int .u64 N, .int .i64 S, .bool F, .slice a0 B.length cap0] 25)
  have hbox := heap_alloc_new w (.cells #[.int .u64 N, .int .i64 S, .bool F, .slice a0 B.length cap0] 25)
  have HD0 := Lib.hid D0; clear D0
  have HX := Lib.hid hbox; clear hbox
  have hsz : Hid ((w.alloc (.cells #[.int .u64 N, .int .i64 S, .bool F, .slice a0 B.length cap0] 25)).heap.size = w.heap.size + 1) := Lib.hid (by simp)
  go_wp2_with (first
    | (at_builtin; refine wpList_appb rfl _ _ 23 23 rfl (w.heap.size + 1) 5 BT.out (.slice none 0 0) [] rfl (World.ownsRow_nil _ _ _ _) _ B rfl ((HBy.out.below HD0.out rfl).src Try.underlying23 cap0) (by simp; omega) (by rw [hsz.out]; exact Nat.le_refl _) ?_; intro v1 w1 hown1 _ hb1 _; have HO1 := Lib.hid hown1; have HB1 := Lib.hid hb1; clear hown1 hb1)
    | (at_builtin; refine wpList_appb rfl _ _ 23 23 rfl (w.heap.size + 1) 5 BT.out v1 B rfl (HO1.out.alloc _) _ [119] rfl (src_one Try.underlying23 w1 5 119 _ rfl) (by simp; omega) (by have := HB1.out.size; rw [hsz.out] at this; simp; omega) ?_; intro v2 w2 hown2 _ hb2 _; have HO2 := Lib.hid hown2; have HB2 := Lib.hid hb2; clear hown2 hb2))
  rw [List.nil_append] at HO1
  have hg0 : w.heap.size < w1.heap.size := by have := HB1.out.size; rw [hsz.out] at this; omega
  have BX : Below (w.heap.size + 1) (w.alloc (.cells #[.int .u64 N, .int .i64 S, .bool F, .slice a0 B.length cap0] 25)) w2 := HB1.out.trans (((Below.refl _ _).alloc (by omega) _).trans HB2.out)
  have HX2 : Hid (w2.heap[w.heap.size]? = some (.cells #[.int .u64 N, .int .i64 S, .bool F, .slice a0 B.length cap0] 25)) := Lib.hid ((BX.block _ (by omega)).trans HX.out)
  have HD2 : Hid (Below w.heap.size w w2) := Lib.hid (HD0.out.trans (BX.mono (by omega)))
  clear BX HX HD0 hsz HB1 HB2 HO1 hg0
  obtain ⟨gm, capm, rfl, hgm, hgl, hcm, _⟩ := own_form HO2.out (by simp)
  have HM : Hid (BytesAt w2 (some ⟨gm, 0, none⟩) B) := Lib.hid (by
    have h := own_bytes HO2.out
    intro i hi
    obtain ⟨b, off, e, hc⟩ := h i (by simp; omega)
    refine ⟨b, off, e, ?_⟩
    rw [hc, List.getElem_append_left hi])
  have hcap : B.length + 1 ≤ capm := by simpa using hcm
  have hcap1 : B.length ≤ capm := by omega
  have HGM := Lib.hid hgl
  clear hcm hgl
  refine wp_region_noPanic ?_
  refine wp_region_held_drew (S := fun w' => Below w2.heap.size w2 w') (by kernel_rfl) (Below.refl _ _).drew (fun hS => ?_)
  refine wpAnyH_take (i := 0) (oi := ⟨some 20, _, _, _, _, _⟩) (v := ?_) rfl (by kernel_rfl) (by kernel_rfl) (by kernel_rfl) (fun _ _ _ h => h) (Or.inl ⟨by rfl, ?_⟩) hS ?_
  rotate_left 1
  · intro w' hB; obtain ⟨k0, k1, k2, k3⟩ := box4 HX2.out hB; (go_simp <;> with_reducible rfl)
  try simp only [Act.put, List.setIfInBounds_toArray, List.set_cons_zero, List.set_cons_succ]
  refine wpAnyH_take (i := 1) (oi := ⟨some 21, _, _, _, _, _⟩) (v := ?_) rfl (by kernel_rfl) (by kernel_rfl) (by kernel_rfl) (fun _ _ _ h => h) (Or.inl ⟨by rfl, ?_⟩) hS ?_
  rotate_left 1
  · intro w' hB; obtain ⟨k0, k1, k2, k3⟩ := box4 HX2.out hB; (go_simp <;> with_reducible rfl)
  try simp only [Act.put, List.setIfInBounds_toArray, List.set_cons_zero, List.set_cons_succ]
  refine wpAnyH_take (i := 2) (oi := ⟨some 22, _, _, _, _, _⟩) (v := ?_) rfl (by kernel_rfl) (by kernel_rfl) (by kernel_rfl) (fun _ _ _ h => h) (Or.inl ⟨by rfl, ?_⟩) hS ?_
  rotate_left 1
  · intro w' hB; obtain ⟨k0, k1, k2, k3⟩ := box4 HX2.out hB; (go_simp <;> with_reducible rfl)
  try simp only [Act.put, List.setIfInBounds_toArray, List.set_cons_zero, List.set_cons_succ]
  refine wpAnyH_take (i := 3) (oi := ⟨some 23, _, _, _, _, _⟩) (v := ?_) rfl (by kernel_rfl) (by kernel_rfl) (by kernel_rfl) (fun _ _ _ h => h) (Or.inl ⟨by rfl, ?_⟩) hS ?_
  rotate_left 1
  · intro w' hB; obtain ⟨k0, k1, k2, k3⟩ := box4 HX2.out hB; (go_simp <;> with_reducible rfl)
  try simp only [Act.put, List.setIfInBounds_toArray, List.set_cons_zero, List.set_cons_succ]
  refine wpAnyH_take (i := 4) (oi := ⟨some 24, _, _, _, _, _⟩) (v := ?_) rfl (by kernel_rfl) (by kernel_rfl) (by kernel_rfl) (fun _ _ _ h => h) (Or.inl ⟨by rfl, ?_⟩) hS ?_
  rotate_left 1
  · intro w' hB; obtain ⟨k0, k1, k2, k3⟩ := box4 HX2.out hB; (go_simp <;> with_reducible rfl)
  try simp only [Act.put, List.setIfInBounds_toArray, List.set_cons_zero, List.set_cons_succ]
  refine wpAnyH_take (i := 6) (oi := ⟨some 26, _, _, _, _, _⟩) (v := ?_) rfl (by kernel_rfl) (by kernel_rfl) (by kernel_rfl) (fun _ _ _ h => h) (Or.inl ⟨by rfl, ?_⟩) hS ?_
  rotate_left 1
  · intro w' hB; obtain ⟨k0, k1, k2, k3⟩ := box4 HX2.out hB; (go_simp <;> with_reducible rfl)
  try simp only [Act.put, List.setIfInBounds_toArray, List.set_cons_zero, List.set_cons_succ]
  refine wpAnyH_take (i := 7) (oi := ⟨some 27, _, _, _, _, _⟩) (v := ?_) rfl (by kernel_rfl) (by kernel_rfl) (by kernel_rfl) (fun _ _ _ h => h) (Or.inl ⟨by rfl, ?_⟩) hS ?_
  rotate_left 1
  · intro w' hB; obtain ⟨k0, k1, k2, k3⟩ := box4 HX2.out hB; (go_simp <;> with_reducible rfl)
  try simp only [Act.put, List.setIfInBounds_toArray, List.set_cons_zero, List.set_cons_succ]
  refine wpAnyH_take (i := 8) (oi := ⟨some 28, _, _, _, _, _⟩) (v := ?_) rfl (by kernel_rfl) (by kernel_rfl) (by kernel_rfl) (fun _ _ _ h => h) (Or.inl ⟨by rfl, ?_⟩) hS ?_
  rotate_left 1
  · intro w' hB; obtain ⟨k0, k1, k2, k3⟩ := box4 HX2.out hB; (go_simp <;> with_reducible rfl)
  try simp only [Act.put, List.setIfInBounds_toArray, List.set_cons_zero, List.set_cons_succ]
  refine wpAnyH_take (i := 9) (oi := ⟨some 29, _, _, _, _, _⟩) (v := ?_) rfl (by kernel_rfl) (by kernel_rfl) (by kernel_rfl) (fun _ _ _ h => h) (Or.inl ⟨by rfl, ?_⟩) hS ?_
  rotate_left 1
  · intro w' hB; obtain ⟨k0, k1, k2, k3⟩ := box4 HX2.out hB; (go_simp <;> with_reducible rfl)
  try simp only [Act.put, List.setIfInBounds_toArray, List.set_cons_zero, List.set_cons_succ]
  refine wpAnyH_take (i := 10) (oi := ⟨some 30, _, _, _, _, _⟩) (v := ?_) rfl (by kernel_rfl) (by kernel_rfl) (by kernel_rfl) (fun _ _ _ h => h) (Or.inl ⟨by rfl, ?_⟩) hS ?_
  rotate_left 1
  · intro w' hB; obtain ⟨k0, k1, k2, k3⟩ := box4 HX2.out hB; (go_simp <;> with_reducible rfl)
  try simp only [Act.put, List.setIfInBounds_toArray, List.set_cons_zero, List.set_cons_succ]
  refine wpAnyH_ready (rs := [5]) (by kernel_rfl) (by simp) (AllReadyH.cons (o := ⟨some 25, _, _, _, _, _⟩) rfl (fun K hK => ?_) AllReadyH.nil)
  go_simp
  refine (wire_Bytes B _ _ _ _ (HM.out.below hS rfl) rfl (by omega)).mono ?_
  rintro e w3 ⟨v3, rfl, ho3, hb⟩
  refine hK.out _ _ (hS.trans (hb.mono hS.size)) (fun _ => ?_)
  clear hK K
  have hB := hS.trans (hb.mono hS.size)
  refine wpAnyH_now hB ?_
  clear hS
  have hS := Below.refl w3.heap.size w3
  replace HX2 := Lib.hid (boxStays HX2.out hB)
  replace HD2 := Lib.hid (HD2.out.trans (hB.mono HD2.out.size))
  replace HO2 := Lib.hid (own_later HO2.out hB (Nat.le_refl _))
  replace HM := Lib.hid (HM.out.below hB rfl)
  have HO3 := Lib.hid ho3
  have U3 : Hid (∀ k, v3.ownBlock = some k → k < w3.heap.size) := Lib.hid (fun k hk => (ho3.lt k hk).2)
  have HS3 : Hid (w2.heap.size ≤ w3.heap.size) := Lib.hid hB.size
  clear ho3
  clear hB hb
  try simp only [Act.put, List.setIfInBounds_toArray, List.set_cons_zero, List.set_cons_succ]
  refine wpAnyH_ready (rs := [11]) (by kernel_rfl) (by simp) (AllReadyH.cons (o := ⟨some 31, _, _, _, _, _⟩) rfl (fun K hK => ?_) AllReadyH.nil)
  go_simp
  refine (wire_Bytes B _ _ _ _ (HM.out.below hS rfl) rfl (by omega)).mono ?_
  rintro e w4 ⟨v4, rfl, ho4, hb⟩
  refine hK.out _ _ (hS.trans (hb.mono hS.size)) (fun _ => ?_)
  clear hK K
  have hB := hS.trans (hb.mono hS.size)
  refine wpAnyH_now hB ?_
  clear hS
  have hS := Below.refl w4.heap.size w4
  replace HX2 := Lib.hid (boxStays HX2.out hB)
  replace HD2 := Lib.hid (HD2.out.trans (hB.mono HD2.out.size))
  replace HO2 := Lib.hid (own_later HO2.out hB (Nat.le_refl _))
  replace HM := Lib.hid (HM.out.below hB rfl)
  replace HO3 := Lib.hid (own_later HO3.out hB (Nat.le_refl _))
  have HO4 := Lib.hid ho4
  have U4 : Hid (∀ k, v4.ownBlock = some k → k < w4.heap.size) := Lib.hid (fun k hk => (ho4.lt k hk).2)
  have HS4 : Hid (w3.heap.size ≤ w4.heap.size) := Lib.hid hB.size
  clear ho4
  clear hB hb
  try simp only [Act.put, List.setIfInBounds_toArray, List.set_cons_zero, List.set_cons_succ]
  refine wpAnyH_take (i := 12) (oi := ⟨some 6, _, _, _, _, _⟩) (v := ?_) rfl (by kernel_rfl) (by kernel_rfl) (by kernel_rfl) (fun _ _ _ h => h) (Or.inl ⟨by rfl, ?_⟩) hS ?_
  rotate_left 1
  · intro w' hB; obtain ⟨k0, k1, k2, k3⟩ := box4 HX2.out hB; (go_simp <;> with_reducible rfl)
  try simp only [Act.put, List.setIfInBounds_toArray, List.set_cons_zero, List.set_cons_succ]
  refine wpAnyH_take (i := 13) (oi := ⟨some 7, _, _, _, _, _⟩) (v := ?_) rfl (by kernel_rfl) (by kernel_rfl) (by kernel_rfl) (fun _ _ _ h => h) (Or.inl ⟨by rfl, ?_⟩) hS ?_
  rotate_left 1
  · intro w' hB; obtain ⟨k0, k1, k2, k3⟩ := box4 HX2.out hB; (go_simp <;> with_reducible rfl)
  try simp only [Act.put, List.setIfInBounds_toArray, List.set_cons_zero, List.set_cons_succ]
  refine wpAnyH_done (by kernel_rfl) (NoPanic.normal ?_) _
  clear hS HM
  go_wp2_with fail
  refine wp_region_noPanic ?_
  refine wp_region_held_drew (S := fun w' => Below w4.heap.size w4 w') (by kernel_rfl) (Below.refl _ _).drew (fun hS => ?_)
  refine wpAnyH_take (i := 0) (oi := ⟨some 32, _, _, _, _, _⟩) (v := ?_) rfl (by kernel_rfl) (by kernel_rfl) (by kernel_rfl) (fun _ _ _ h => h) (Or.inl ⟨by rfl, ?_⟩) hS ?_
  rotate_left 1
  · intro w' hB; obtain ⟨k0, k1, k2, k3⟩ := box4 HX2.out hB; (go_simp <;> with_reducible rfl)
  try simp only [Act.put, List.setIfInBounds_toArray, List.set_cons_zero, List.set_cons_succ]
  refine wpAnyH_take (i := 1) (oi := ⟨some 33, _, _, _, _, _⟩) (v := ?_) rfl (by kernel_rfl) (by kernel_rfl) (by kernel_rfl) (fun _ _ _ h => h) (Or.inl ⟨by rfl, ?_⟩) hS ?_
  rotate_left 1
  · intro w' hB; obtain ⟨k0, k1, k2, k3⟩ := box4 HX2.out hB; (go_simp <;> with_reducible rfl)
  try simp only [Act.put, List.setIfInBounds_toArray, List.set_cons_zero, List.set_cons_succ]
  refine wpAnyH_take (i := 3) (oi := ⟨some 35, _, _, _, _, _⟩) (v := ?_) rfl (by kernel_rfl) (by kernel_rfl) (by kernel_rfl) (fun _ _ _ h => h) (Or.inl ⟨by rfl, ?_⟩) hS ?_
  rotate_left 1
  · intro w' hB; obtain ⟨k0, k1, k2, k3⟩ := box4 HX2.out hB; (go_simp <;> with_reducible rfl)
  try simp only [Act.put, List.setIfInBounds_toArray, List.set_cons_zero, List.set_cons_succ]
  refine wpAnyH_take (i := 4) (oi := ⟨some 36, _, _, _, _, _⟩) (v := ?_) rfl (by kernel_rfl) (by kernel_rfl) (by kernel_rfl) (fun _ _ _ h => h) (Or.inl ⟨by rfl, ?_⟩) hS ?_
  rotate_left 1
  · intro w' hB; obtain ⟨k0, k1, k2, k3⟩ := box4 HX2.out hB; (go_simp <;> with_reducible rfl)
  try simp only [Act.put, List.setIfInBounds_toArray, List.set_cons_zero, List.set_cons_succ]
  refine wpAnyH_ready (rs := [2]) (by kernel_rfl) (by simp) (AllReadyH.cons (o := ⟨some 34, _, _, _, _, _⟩) rfl (fun K hK => ?_) AllReadyH.nil)
  go_simp
  refine (wire_Number _ N _ rfl hN).mono ?_
  rintro e w5 ⟨v5, rfl, ho5, hb⟩
  refine hK.out _ _ (hS.trans (hb.mono hS.size)) (fun _ => ?_)
  clear hK K
  have hB := hS.trans (hb.mono hS.size)
  refine wpAnyH_now hB ?_
  clear hS
  have hS := Below.refl w5.heap.size w5
  replace HX2 := Lib.hid (boxStays HX2.out hB)
  replace HD2 := Lib.hid (HD2.out.trans (hB.mono HD2.out.size))
  replace HO2 := Lib.hid (own_later HO2.out hB (Nat.le_refl _))
  replace HO3 := Lib.hid (own_later HO3.out hB (Nat.le_refl _))
  replace HO4 := Lib.hid (own_later HO4.out hB (Nat.le_refl _))
  have HO5 := Lib.hid ho5
  have U5 : Hid (∀ k, v5.ownBlock = some k → k < w5.heap.size) := Lib.hid (fun k hk => (ho5.lt k hk).2)
  have HS5 : Hid (w4.heap.size ≤ w5.heap.size) := Lib.hid hB.size
  clear ho5
  clear hB hb
  try simp only [Act.put, List.setIfInBounds_toArray, List.set_cons_zero, List.set_cons_succ]
  refine wpAnyH_ready (rs := [5]) (by kernel_rfl) (by simp) (AllReadyH.cons (o := ⟨some 37, _, _, _, _, _⟩) rfl (fun K hK => ?_) AllReadyH.nil)
  go_simp
  refine (wire_Number _ N _ rfl hN).mono ?_
  rintro e w6 ⟨v6, rfl, ho6, hb⟩
  refine hK.out _ _ (hS.trans (hb.mono hS.size)) (fun _ => ?_)
  clear hK K
  have hB := hS.trans (hb.mono hS.size)
  refine wpAnyH_now hB ?_
  clear hS
  have hS := Below.refl w6.heap.size w6
  replace HX2 := Lib.hid (boxStays HX2.out hB)
  replace HD2 := Lib.hid (HD2.out.trans (hB.mono HD2.out.size))
  replace HO2 := Lib.hid (own_later HO2.out hB (Nat.le_refl _))
  replace HO3 := Lib.hid (own_later HO3.out hB (Nat.le_refl _))
  replace HO4 := Lib.hid (own_later HO4.out hB (Nat.le_refl _))
  replace HO5 := Lib.hid (own_later HO5.out hB (Nat.le_refl _))
  have HO6 := Lib.hid ho6
  have U6 : Hid (∀ k, v6.ownBlock = some k → k < w6.heap.size) := Lib.hid (fun k hk => (ho6.lt k hk).2)
  have HS6 : Hid (w5.heap.size ≤ w6.heap.size) := Lib.hid hB.size
  clear ho6
  clear hB hb
  try simp only [Act.put, List.setIfInBounds_toArray, List.set_cons_zero, List.set_cons_succ]
  refine wpAnyH_take (i := 6) (oi := ⟨some 8, _, _, _, _, _⟩) (v := ?_) rfl (by kernel_rfl) (by kernel_rfl) (by kernel_rfl) (fun _ _ _ h => h) (Or.inl ⟨by rfl, ?_⟩) hS ?_
  rotate_left 1
  · intro w' hB; obtain ⟨k0, k1, k2, k3⟩ := box4 HX2.out hB; (go_simp <;> with_reducible rfl)
  try simp only [Act.put, List.setIfInBounds_toArray, List.set_cons_zero, List.set_cons_succ]
  refine wpAnyH_take (i := 7) (oi := ⟨some 9, _, _, _, _, _⟩) (v := ?_) rfl (by kernel_rfl) (by kernel_rfl) (by kernel_rfl) (fun _ _ _ h => h) (Or.inl ⟨by rfl, ?_⟩) hS ?_
  rotate_left 1
  · intro w' hB; obtain ⟨k0, k1, k2, k3⟩ := box4 HX2.out hB; (go_simp <;> with_reducible rfl)
  try simp only [Act.put, List.setIfInBounds_toArray, List.set_cons_zero, List.set_cons_succ]
  refine wpAnyH_done (by kernel_rfl) (NoPanic.normal ?_) _
  clear hS
  go_wp2_with fail
  go_loopw [10, 11] (fun v i wr => ∃ k : Nat, k ≤ ll.length ∧ i = .int .i64 k ∧ wr.ownsRow w6.heap.size 5 1 v (ll.take k).flatten.length (bvs (ll.take k).flatten) ∧ Below w6.heap.size w6 wr) (fun _ i _ => ll.length - (intOf i).toNat)
  case atStart => exact ⟨0, by omega, rfl, World.ownsRow_nil _ _ _ _, Below.refl _ _⟩
  case round =>
    obtain ⟨k, hk, rfl, hown, hb⟩ := hrel
    have HO := Lib.hid hown; clear hown
    have HB := Lib.hid hb; clear hb
    by_cases hlt : k < ll.length
    · obtain ⟨b, off, a', cap', rfl, hc, hla, hlm⟩ := (HL.out.below (HD2.out.trans (HB.out.mono HD2.out.size)) rfl) k hlt
      have HLA := Lib.hid hla; clear hla
      have HF := Lib.hid (join_take_succ ll k hlt)
      have h1 := join_take_le ll (k + 1)
      have h2 : (ll.take k).flatten.length + ll[k].length ≤ 70368744177664 := by rw [HF.out, List.length_append] at h1; omega
      clear h1
      have HBS := Lib.hid HB.out.size
      go_wp2_with (at_builtin; refine wpList_appb rfl _ _ 23 23 rfl w6.heap.size 5 BT.out u10 (ll.take k).flatten rfl HO.out _ ll[k] rfl (HLA.out.src Try.underlying23 cap') h2 HBS.out ?_; intro v' w1' hown1 _ hbel1 _)
      rw [← HF.out] at hown1
      have HO1 := Lib.hid hown1; clear hown1
      have HB1 := Lib.hid (HB.out.trans hbel1); clear hbel1
      go_wp2_with fail
      go_roundw
      case rel => exact ⟨k + 1, by omega, by go_num, HO1.out, HB1.out⟩
      case measure => simp [intOf]; omega
    · obtain rfl : k = ll.length := by omega
      have HA : Hid (wr.ownsRow w6.heap.size 5 1 u10 ll.flatten.length (bvs ll.flatten)) := Lib.hid (by have := HO.out; rwa [List.take_length] at this)
      clear HO
      have UA : Hid (∀ k, u10.ownBlock = some k → k < wr.heap.size) := Lib.hid (fun k hk => (HA.out.lt k hk).2)
      have HX7 := Lib.hid (boxStays HX2.out HB.out)
      have HD7 := Lib.hid (HD2.out.trans (HB.out.mono HD2.out.size))
      have HO27 := Lib.hid (own_later HO2.out HB.out (Nat.le_refl _))
      have HO37 := Lib.hid (own_later HO3.out HB.out (Nat.le_refl _))
      have HO47 := Lib.hid (own_later HO4.out HB.out (Nat.le_refl _))
      have HO57 := Lib.hid (own_later HO5.out HB.out (Nat.le_refl _))
      have HO67 := Lib.hid (own_later HO6.out HB.out (Nat.le_refl _))
      have HS7 : Hid (w6.heap.size ≤ wr.heap.size) := Lib.hid HB.out.size
      clear HX2 HD2 HO2 HO3 HO4 HO5 HO6 HB hk hlt
      obtain ⟨w7, hw7⟩ : ∃ x : World, x = wr := ⟨_, rfl⟩
      subst hw7
      go_wp2_with fail
      refine (wire_Join ll a _ cap _ (HL.out.below HD7.out rfl) rfl (by omega) (by omega)).mono ?_
      rintro e w8 ⟨v8, rfl, ho8, hB⟩
      have HJ := Lib.hid ho8; clear ho8
      have HX := Lib.hid (boxStays HX7.out hB)
      have HD := Lib.hid (HD7.out.trans (hB.mono HD7.out.size))
      have HO2 := Lib.hid (own_later HO27.out hB (Nat.le_refl _))
      have HO3 := Lib.hid (own_later HO37.out hB (Nat.le_refl _))
      have HO4 := Lib.hid (own_later HO47.out hB (Nat.le_refl _))
      have HO5 := Lib.hid (own_later HO57.out hB (Nat.le_refl _))
      have HO6 := Lib.hid (own_later HO67.out hB (Nat.le_refl _))
      have HALL := Lib.hid (own_later HA.out hB (Nat.le_refl _))
      have HS8 : Hid (w7.heap.size ≤ w8.heap.size) := Lib.hid hB.size
      clear HX7 HD7 HO27 HO37 HO47 HO57 HO67 HA hB
      go_wp2_with fail
      obtain ⟨a3, n3, c3, rfl, hn3, b3⟩ := own_bytesN HO3.out
      obtain ⟨a4, n4, c4, rfl, hn4, b4⟩ := own_bytesN HO4.out
      obtain ⟨a5, n5, c5, rfl, hn5, b5⟩ := own_bytesN HO5.out
      obtain ⟨a6, n6, c6, rfl, hn6, b6⟩ := own_bytesN HO6.out
      obtain ⟨aj, nj, cj, rfl, hnj, bj⟩ := own_bytesN HJ.out
      obtain ⟨aa, na, ca, rfl, hna, ba⟩ := own_bytesN HALL.out
      obtain ⟨LB, hLB⟩ : ∃ L, Hid (L = enc B.length ++ B) := ⟨_, Lib.hid rfl⟩
      obtain ⟨LN, hLN⟩ : ∃ L, Hid (L = enc N) := ⟨_, Lib.hid rfl⟩
      obtain ⟨LS, hLS⟩ : ∃ L, Hid (L = enc (Wire.fold S)) := ⟨_, Lib.hid rfl⟩
      obtain ⟨LF, hLF⟩ : ∃ L, Hid (L = [if F then (1 : UInt8) else 0]) := ⟨_, Lib.hid rfl⟩
      obtain ⟨LJ, hLJ⟩ : ∃ L, Hid (L = ll.flatten) := ⟨_, Lib.hid rfl⟩
      rw [← hLB.out] at HO3 HO4 hn3 hn4 b3 b4
      rw [← hLN.out] at HO5 HO6 hn5 hn6 b5 b6
      rw [← hLJ.out] at HJ HALL hnj hna bj ba
      have Y3 := Lib.hid b3
      have Y4 := Lib.hid b4
      have Y5 := Lib.hid b5
      have Y6 := Lib.hid b6
      have YJ := Lib.hid bj
      have YA := Lib.hid ba
      have YB := Lib.hid (HBy.out.below HD.out rfl)
      have HE3 := Lib.hid hn3
      have HE4 := Lib.hid hn4
      have HE5 := Lib.hid hn5
      have HE6 := Lib.hid hn6
      have HEJ := Lib.hid hnj
      have HEA := Lib.hid hna
      clear b3 b4 b5 b6 bj ba hn3 hn4 hn5 hn6 hnj hna
      refine wp_region_noPanic ?_
      refine wp_region_held_drew (S := fun w' => Below w8.heap.size w8 w') (by kernel_rfl) (Below.refl _ _).drew (fun hS => ?_)
      refine wpAnyH_take (i := 0) (oi := ⟨some 52, _, _, _, _, _⟩) (v := ?_) rfl (by kernel_rfl) (by kernel_rfl) (by kernel_rfl) (fun _ _ _ h => h) (Or.inl ⟨by rfl, ?_⟩) hS ?_
      rotate_left 1
      · intro w' hB; (obtain ⟨k0, k1, k2, k3⟩ := box4 HX.out hB); have s3 := (Y3.out.below hB rfl).str n3 c3 HE3.out; have s5 := (Y5.out.below hB rfl).str n5 c5 HE5.out; have sj := (YJ.out.below hB rfl).str nj cj HEJ.out; have sa := (YA.out.below hB rfl).str na ca HEA.out; (try have t1 := (F1.out.below hB rfl).str m1 d1 G1.out); (try have t2 := (F2.out.below hB rfl).str m2 d2 G2.out); (try have t3 := (F3.out.below hB rfl).str m3 d3 G3.out); (try have t4 := (F4.out.below hB rfl).str m4 d4 G4.out); (try have t5 := (F5.out.below hB rfl).str m5 d5 G5.out); (try have t6 := (F6.out.below hB rfl).str m6 d6 G6.out); (go_simp <;> with_reducible rfl)
      try simp only [Act.put, List.setIfInBounds_toArray, List.set_cons_zero, List.set_cons_succ]
      refine wpAnyH_take (i := 1) (oi := ⟨some 53, _, _, _, _, _⟩) (v := ?_) rfl (by kernel_rfl) (by kernel_rfl) (by kernel_rfl) (fun _ _ _ h => h) (Or.inl ⟨by rfl, ?_⟩) hS ?_
      rotate_left 1
      · intro w' hB; (obtain ⟨k0, k1, k2, k3⟩ := box4 HX.out hB); have s3 := (Y3.out.below hB rfl).str n3 c3 HE3.out; have s5 := (Y5.out.below hB rfl).str n5 c5 HE5.out; have sj := (YJ.out.below hB rfl).str nj cj HEJ.out; have sa := (YA.out.below hB rfl).str na ca HEA.out; (try have t1 := (F1.out.below hB rfl).str m1 d1 G1.out); (try have t2 := (F2.out.below hB rfl).str m2 d2 G2.out); (try have t3 := (F3.out.below hB rfl).str m3 d3 G3.out); (try have t4 := (F4.out.below hB rfl).str m4 d4 G4.out); (try have t5 := (F5.out.below hB rfl).str m5 d5 G5.out); (try have t6 := (F6.out.below hB rfl).str m6 d6 G6.out); (go_simp <;> with_reducible rfl)
      try simp only [Act.put, List.setIfInBounds_toArray, List.set_cons_zero, List.set_cons_succ]
      refine wpAnyH_take (i := 2) (oi := ⟨some 54, _, _, _, _, _⟩) (v := ?_) rfl (by kernel_rfl) (by kernel_rfl) (by kernel_rfl) (fun _ _ _ h => h) (Or.inl ⟨by rfl, ?_⟩) hS ?_
      rotate_left 1
      · intro w' hB; (obtain ⟨k0, k1, k2, k3⟩ := box4 HX.out hB); have s3 := (Y3.out.below hB rfl).str n3 c3 HE3.out; have s5 := (Y5.out.below hB rfl).str n5 c5 HE5.out; have sj := (YJ.out.below hB rfl).str nj cj HEJ.out; have sa := (YA.out.below hB rfl).str na ca HEA.out; (try have t1 := (F1.out.below hB rfl).str m1 d1 G1.out); (try have t2 := (F2.out.below hB rfl).str m2 d2 G2.out); (try have t3 := (F3.out.below hB rfl).str m3 d3 G3.out); (try have t4 := (F4.out.below hB rfl).str m4 d4 G4.out); (try have t5 := (F5.out.below hB rfl).str m5 d5 G5.out); (try have t6 := (F6.out.below hB rfl).str m6 d6 G6.out); (go_simp <;> with_reducible rfl)
      try simp only [Act.put, List.setIfInBounds_toArray, List.set_cons_zero, List.set_cons_succ]
      refine wpAnyH_take (i := 3) (oi := ⟨some 55, _, _, _, _, _⟩) (v := ?_) rfl (by kernel_rfl) (by kernel_rfl) (by kernel_rfl) (fun _ _ _ h => h) (Or.inl ⟨by rfl, ?_⟩) hS ?_
      rotate_left 1
      · intro w' hB; (obtain ⟨k0, k1, k2, k3⟩ := box4 HX.out hB); have s3 := (Y3.out.below hB rfl).str n3 c3 HE3.out; have s5 := (Y5.out.below hB rfl).str n5 c5 HE5.out; have sj := (YJ.out.below hB rfl).str nj cj HEJ.out; have sa := (YA.out.below hB rfl).str na ca HEA.out; (try have t1 := (F1.out.below hB rfl).str m1 d1 G1.out); (try have t2 := (F2.out.below hB rfl).str m2 d2 G2.out); (try have t3 := (F3.out.below hB rfl).str m3 d3 G3.out); (try have t4 := (F4.out.below hB rfl).str m4 d4 G4.out); (try have t5 := (F5.out.below hB rfl).str m5 d5 G5.out); (try have t6 := (F6.out.below hB rfl).str m6 d6 G6.out); (go_simp <;> with_reducible rfl)
      try simp only [Act.put, List.setIfInBounds_toArray, List.set_cons_zero, List.set_cons_succ]
      refine wpAnyH_ready (rs := [4]) (by kernel_rfl) (by simp) (AllReadyH.cons (o := ⟨some 56, _, _, _, _, _⟩) rfl (fun K hK => ?_) AllReadyH.nil)
      go_simp
      refine (ref_Bytes B _ _ _ _ (YB.out.below hS rfl) rfl (by omega)).mono ?_
      rintro e z1 ⟨x1, rfl, ox, hb⟩
      rw [← hLB.out] at ox
      obtain ⟨q1, m1, d1, rfl, G, F⟩ := own_bytesN ox
      refine hK.out _ _ (hS.trans (hb.mono hS.size)) (fun _ => ?_)
      clear hK K
      have hB := hS.trans (hb.mono hS.size)
      refine wpAnyH_now hB ?_
      clear hS
      have hS := Below.refl z1.heap.size z1
      replace HX := Lib.hid (boxStays HX.out hB)
      replace HD := Lib.hid (HD.out.trans (hB.mono HD.out.size))
      replace Y3 := Lib.hid (Y3.out.below hB rfl)
      replace Y4 := Lib.hid (Y4.out.below hB rfl)
      replace Y5 := Lib.hid (Y5.out.below hB rfl)
      replace Y6 := Lib.hid (Y6.out.below hB rfl)
      replace YJ := Lib.hid (YJ.out.below hB rfl)
      replace YA := Lib.hid (YA.out.below hB rfl)
      replace YB := Lib.hid (YB.out.below hB rfl)
      replace HO2 := Lib.hid (own_later HO2.out hB (Nat.le_refl _))
      replace HO3 := Lib.hid (own_later HO3.out hB (Nat.le_refl _))
      replace HO4 := Lib.hid (own_later HO4.out hB (Nat.le_refl _))
      replace HO5 := Lib.hid (own_later HO5.out hB (Nat.le_refl _))
      replace HO6 := Lib.hid (own_later HO6.out hB (Nat.le_refl _))
      replace HJ := Lib.hid (own_later HJ.out hB (Nat.le_refl _))
      replace HALL := Lib.hid (own_later HALL.out hB (Nat.le_refl _))
      
      have F1 := Lib.hid F
      have G1 := Lib.hid G
      clear hB hb ox F G
      try simp only [Act.put, List.setIfInBounds_toArray, List.set_cons_zero, List.set_cons_succ]
      refine wpAnyH_take (i := 5) (oi := ⟨some 57, _, _, _, _, _⟩) (v := ?_) rfl (by kernel_rfl) (by kernel_rfl) (by kernel_rfl) (fun _ _ _ h => h) (Or.inl ⟨by rfl, ?_⟩) hS ?_
      rotate_left 1
      · intro w' hB; (obtain ⟨k0, k1, k2, k3⟩ := box4 HX.out hB); have s3 := (Y3.out.below hB rfl).str n3 c3 HE3.out; have s5 := (Y5.out.below hB rfl).str n5 c5 HE5.out; have sj := (YJ.out.below hB rfl).str nj cj HEJ.out; have sa := (YA.out.below hB rfl).str na ca HEA.out; (try have t1 := (F1.out.below hB rfl).str m1 d1 G1.out); (try have t2 := (F2.out.below hB rfl).str m2 d2 G2.out); (try have t3 := (F3.out.below hB rfl).str m3 d3 G3.out); (try have t4 := (F4.out.below hB rfl).str m4 d4 G4.out); (try have t5 := (F5.out.below hB rfl).str m5 d5 G5.out); (try have t6 := (F6.out.below hB rfl).str m6 d6 G6.out); (go_simp <;> with_reducible rfl)
      try simp only [Act.put, List.setIfInBounds_toArray, List.set_cons_zero, List.set_cons_succ]
      refine wpAnyH_take (i := 6) (oi := ⟨some 58, _, _, _, _, _⟩) (v := ?_) rfl (by kernel_rfl) (by kernel_rfl) (by kernel_rfl) (fun _ _ _ h => h) (Or.inl ⟨by rfl, ?_⟩) hS ?_
      rotate_left 1
      · intro w' hB; (obtain ⟨k0, k1, k2, k3⟩ := box4 HX.out hB); have s3 := (Y3.out.below hB rfl).str n3 c3 HE3.out; have s5 := (Y5.out.below hB rfl).str n5 c5 HE5.out; have sj := (YJ.out.below hB rfl).str nj cj HEJ.out; have sa := (YA.out.below hB rfl).str na ca HEA.out; (try have t1 := (F1.out.below hB rfl).str m1 d1 G1.out); (try have t2 := (F2.out.below hB rfl).str m2 d2 G2.out); (try have t3 := (F3.out.below hB rfl).str m3 d3 G3.out); (try have t4 := (F4.out.below hB rfl).str m4 d4 G4.out); (try have t5 := (F5.out.below hB rfl).str m5 d5 G5.out); (try have t6 := (F6.out.below hB rfl).str m6 d6 G6.out); (go_simp <;> with_reducible rfl)
      try simp only [Act.put, List.setIfInBounds_toArray, List.set_cons_zero, List.set_cons_succ]
      refine wpAnyH_take (i := 7) (oi := ⟨some 59, _, _, _, _, _⟩) (v := ?_) rfl (by kernel_rfl) (by kernel_rfl) (by kernel_rfl) (fun _ _ _ h => h) (Or.inl ⟨by rfl, ?_⟩) hS ?_
      rotate_left 1
      · intro w' hB; (obtain ⟨k0, k1, k2, k3⟩ := box4 HX.out hB); have s3 := (Y3.out.below hB rfl).str n3 c3 HE3.out; have s5 := (Y5.out.below hB rfl).str n5 c5 HE5.out; have sj := (YJ.out.below hB rfl).str nj cj HEJ.out; have sa := (YA.out.below hB rfl).str na ca HEA.out; (try have t1 := (F1.out.below hB rfl).str m1 d1 G1.out); (try have t2 := (F2.out.below hB rfl).str m2 d2 G2.out); (try have t3 := (F3.out.below hB rfl).str m3 d3 G3.out); (try have t4 := (F4.out.below hB rfl).str m4 d4 G4.out); (try have t5 := (F5.out.below hB rfl).str m5 d5 G5.out); (try have t6 := (F6.out.below hB rfl).str m6 d6 G6.out); (go_simp <;> with_reducible rfl)
      try simp only [Act.put, List.setIfInBounds_toArray, List.set_cons_zero, List.set_cons_succ]
      refine wpAnyH_take (i := 8) (oi := ⟨some 60, _, _, _, _, _⟩) (v := ?_) rfl (by kernel_rfl) (by kernel_rfl) (by kernel_rfl) (fun _ _ _ h => h) (Or.inl ⟨by rfl, ?_⟩) hS ?_
      rotate_left 1
      · intro w' hB; (obtain ⟨k0, k1, k2, k3⟩ := box4 HX.out hB); have s3 := (Y3.out.below hB rfl).str n3 c3 HE3.out; have s5 := (Y5.out.below hB rfl).str n5 c5 HE5.out; have sj := (YJ.out.below hB rfl).str nj cj HEJ.out; have sa := (YA.out.below hB rfl).str na ca HEA.out; (try have t1 := (F1.out.below hB rfl).str m1 d1 G1.out); (try have t2 := (F2.out.below hB rfl).str m2 d2 G2.out); (try have t3 := (F3.out.below hB rfl).str m3 d3 G3.out); (try have t4 := (F4.out.below hB rfl).str m4 d4 G4.out); (try have t5 := (F5.out.below hB rfl).str m5 d5 G5.out); (try have t6 := (F6.out.below hB rfl).str m6 d6 G6.out); (go_simp <;> with_reducible rfl)
      try simp only [Act.put, List.setIfInBounds_toArray, List.set_cons_zero, List.set_cons_succ]
      refine wpAnyH_take (i := 9) (oi := ⟨some 61, _, _, _, _, _⟩) (v := ?_) rfl (by kernel_rfl) (by kernel_rfl) (by kernel_rfl) (fun _ _ _ h => h) (Or.inl ⟨by rfl, ?_⟩) hS ?_
      rotate_left 1
      · intro w' hB; (obtain ⟨k0, k1, k2, k3⟩ := box4 HX.out hB); have s3 := (Y3.out.below hB rfl).str n3 c3 HE3.out; have s5 := (Y5.out.below hB rfl).str n5 c5 HE5.out; have sj := (YJ.out.below hB rfl).str nj cj HEJ.out; have sa := (YA.out.below hB rfl).str na ca HEA.out; (try have t1 := (F1.out.below hB rfl).str m1 d1 G1.out); (try have t2 := (F2.out.below hB rfl).str m2 d2 G2.out); (try have t3 := (F3.out.below hB rfl).str m3 d3 G3.out); (try have t4 := (F4.out.below hB rfl).str m4 d4 G4.out); (try have t5 := (F5.out.below hB rfl).str m5 d5 G5.out); (try have t6 := (F6.out.below hB rfl).str m6 d6 G6.out); (go_simp <;> with_reducible rfl)
      try simp only [Act.put, List.setIfInBounds_toArray, List.set_cons_zero, List.set_cons_succ]
      refine wpAnyH_take (i := 10) (oi := ⟨some 62, _, _, _, _, _⟩) (v := ?_) rfl (by kernel_rfl) (by kernel_rfl) (by kernel_rfl) (fun _ _ _ h => h) (Or.inl ⟨by rfl, ?_⟩) hS ?_
      rotate_left 1
      · intro w' hB; (obtain ⟨k0, k1, k2, k3⟩ := box4 HX.out hB); have s3 := (Y3.out.below hB rfl).str n3 c3 HE3.out; have s5 := (Y5.out.below hB rfl).str n5 c5 HE5.out; have sj := (YJ.out.below hB rfl).str nj cj HEJ.out; have sa := (YA.out.below hB rfl).str na ca HEA.out; (try have t1 := (F1.out.below hB rfl).str m1 d1 G1.out); (try have t2 := (F2.out.below hB rfl).str m2 d2 G2.out); (try have t3 := (F3.out.below hB rfl).str m3 d3 G3.out); (try have t4 := (F4.out.below hB rfl).str m4 d4 G4.out); (try have t5 := (F5.out.below hB rfl).str m5 d5 G5.out); (try have t6 := (F6.out.below hB rfl).str m6 d6 G6.out); (go_simp <;> with_reducible rfl)
      try simp only [Act.put, List.setIfInBounds_toArray, List.set_cons_zero, List.set_cons_succ]
      refine wpAnyH_take (i := 11) (oi := ⟨some 63, _, _, _, _, _⟩) (v := ?_) rfl (by kernel_rfl) (by kernel_rfl) (by kernel_rfl) (fun _ _ _ h => h) (Or.inl ⟨by rfl, ?_⟩) hS ?_
      rotate_left 1
      · intro w' hB; (obtain ⟨k0, k1, k2, k3⟩ := box4 HX.out hB); have s3 := (Y3.out.below hB rfl).str n3 c3 HE3.out; have s5 := (Y5.out.below hB rfl).str n5 c5 HE5.out; have sj := (YJ.out.below hB rfl).str nj cj HEJ.out; have sa := (YA.out.below hB rfl).str na ca HEA.out; (try have t1 := (F1.out.below hB rfl).str m1 d1 G1.out); (try have t2 := (F2.out.below hB rfl).str m2 d2 G2.out); (try have t3 := (F3.out.below hB rfl).str m3 d3 G3.out); (try have t4 := (F4.out.below hB rfl).str m4 d4 G4.out); (try have t5 := (F5.out.below hB rfl).str m5 d5 G5.out); (try have t6 := (F6.out.below hB rfl).str m6 d6 G6.out); (go_simp <;> with_reducible rfl)
      try simp only [Act.put, List.setIfInBounds_toArray, List.set_cons_zero, List.set_cons_succ]
      refine wpAnyH_ready (rs := [12]) (by kernel_rfl) (by simp) (AllReadyH.cons (o := ⟨some 64, _, _, _, _, _⟩) rfl (fun K hK => ?_) AllReadyH.nil)
      go_simp
      refine (ref_Number _ N _ rfl hN).mono ?_
      rintro e z2 ⟨x2, rfl, ox, hb⟩
      rw [← hLN.out] at ox
      obtain ⟨q2, m2, d2, rfl, G, F⟩ := own_bytesN ox
      refine hK.out _ _ (hS.trans (hb.mono hS.size)) (fun _ => ?_)
      clear hK K
      have hB := hS.trans (hb.mono hS.size)
      refine wpAnyH_now hB ?_
      clear hS
      have hS := Below.refl z2.heap.size z2
      replace HX := Lib.hid (boxStays HX.out hB)
      replace HD := Lib.hid (HD.out.trans (hB.mono HD.out.size))
      replace Y3 := Lib.hid (Y3.out.below hB rfl)
      replace Y4 := Lib.hid (Y4.out.below hB rfl)
      replace Y5 := Lib.hid (Y5.out.below hB rfl)
      replace Y6 := Lib.hid (Y6.out.below hB rfl)
      replace YJ := Lib.hid (YJ.out.below hB rfl)
      replace YA := Lib.hid (YA.out.below hB rfl)
      replace YB := Lib.hid (YB.out.below hB rfl)
      replace HO2 := Lib.hid (own_later HO2.out hB (Nat.le_refl _))
      replace HO3 := Lib.hid (own_later HO3.out hB (Nat.le_refl _))
      replace HO4 := Lib.hid (own_later HO4.out hB (Nat.le_refl _))
      replace HO5 := Lib.hid (own_later HO5.out hB (Nat.le_refl _))
      replace HO6 := Lib.hid (own_later HO6.out hB (Nat.le_refl _))
      replace HJ := Lib.hid (own_later HJ.out hB (Nat.le_refl _))
      replace HALL := Lib.hid (own_later HALL.out hB (Nat.le_refl _))
      (try replace F1 := Lib.hid (F1.out.below hB rfl))
      have F2 := Lib.hid F
      have G2 := Lib.hid G
      clear hB hb ox F G
      try simp only [Act.put, List.setIfInBounds_toArray, List.set_cons_zero, List.set_cons_succ]
      refine wpAnyH_take (i := 13) (oi := ⟨some 65, _, _, _, _, _⟩) (v := ?_) rfl (by kernel_rfl) (by kernel_rfl) (by kernel_rfl) (fun _ _ _ h => h) (Or.inl ⟨by rfl, ?_⟩) hS ?_
      rotate_left 1
      · intro w' hB; (obtain ⟨k0, k1, k2, k3⟩ := box4 HX.out hB); have s3 := (Y3.out.below hB rfl).str n3 c3 HE3.out; have s5 := (Y5.out.below hB rfl).str n5 c5 HE5.out; have sj := (YJ.out.below hB rfl).str nj cj HEJ.out; have sa := (YA.out.below hB rfl).str na ca HEA.out; (try have t1 := (F1.out.below hB rfl).str m1 d1 G1.out); (try have t2 := (F2.out.below hB rfl).str m2 d2 G2.out); (try have t3 := (F3.out.below hB rfl).str m3 d3 G3.out); (try have t4 := (F4.out.below hB rfl).str m4 d4 G4.out); (try have t5 := (F5.out.below hB rfl).str m5 d5 G5.out); (try have t6 := (F6.out.below hB rfl).str m6 d6 G6.out); (go_simp <;> with_reducible rfl)
      try simp only [Act.put, List.setIfInBounds_toArray, List.set_cons_zero, List.set_cons_succ]
      refine wpAnyH_take (i := 14) (oi := ⟨some 66, _, _, _, _, _⟩) (v := ?_) rfl (by kernel_rfl) (by kernel_rfl) (by kernel_rfl) (fun _ _ _ h => h) (Or.inl ⟨by rfl, ?_⟩) hS ?_
      rotate_left 1
      · intro w' hB; (obtain ⟨k0, k1, k2, k3⟩ := box4 HX.out hB); have s3 := (Y3.out.below hB rfl).str n3 c3 HE3.out; have s5 := (Y5.out.below hB rfl).str n5 c5 HE5.out; have sj := (YJ.out.below hB rfl).str nj cj HEJ.out; have sa := (YA.out.below hB rfl).str na ca HEA.out; (try have t1 := (F1.out.below hB rfl).str m1 d1 G1.out); (try have t2 := (F2.out.below hB rfl).str m2 d2 G2.out); (try have t3 := (F3.out.below hB rfl).str m3 d3 G3.out); (try have t4 := (F4.out.below hB rfl).str m4 d4 G4.out); (try have t5 := (F5.out.below hB rfl).str m5 d5 G5.out); (try have t6 := (F6.out.below hB rfl).str m6 d6 G6.out); (go_simp <;> with_reducible rfl)
      try simp only [Act.put, List.setIfInBounds_toArray, List.set_cons_zero, List.set_cons_succ]
      refine wpAnyH_take (i := 15) (oi := ⟨some 67, _, _, _, _, _⟩) (v := ?_) rfl (by kernel_rfl) (by kernel_rfl) (by kernel_rfl) (fun _ _ _ h => h) (Or.inl ⟨by rfl, ?_⟩) hS ?_
      rotate_left 1
      · intro w' hB; (obtain ⟨k0, k1, k2, k3⟩ := box4 HX.out hB); have s3 := (Y3.out.below hB rfl).str n3 c3 HE3.out; have s5 := (Y5.out.below hB rfl).str n5 c5 HE5.out; have sj := (YJ.out.below hB rfl).str nj cj HEJ.out; have sa := (YA.out.below hB rfl).str na ca HEA.out; (try have t1 := (F1.out.below hB rfl).str m1 d1 G1.out); (try have t2 := (F2.out.below hB rfl).str m2 d2 G2.out); (try have t3 := (F3.out.below hB rfl).str m3 d3 G3.out); (try have t4 := (F4.out.below hB rfl).str m4 d4 G4.out); (try have t5 := (F5.out.below hB rfl).str m5 d5 G5.out); (try have t6 := (F6.out.below hB rfl).str m6 d6 G6.out); (go_simp <;> with_reducible rfl)
      try simp only [Act.put, List.setIfInBounds_toArray, List.set_cons_zero, List.set_cons_succ]
      refine wpAnyH_take (i := 16) (oi := ⟨some 68, _, _, _, _, _⟩) (v := ?_) rfl (by kernel_rfl) (by kernel_rfl) (by kernel_rfl) (fun _ _ _ h => h) (Or.inl ⟨by rfl, ?_⟩) hS ?_
      rotate_left 1
      · intro w' hB; (obtain ⟨k0, k1, k2, k3⟩ := box4 HX.out hB); have s3 := (Y3.out.below hB rfl).str n3 c3 HE3.out; have s5 := (Y5.out.below hB rfl).str n5 c5 HE5.out; have sj := (YJ.out.below hB rfl).str nj cj HEJ.out; have sa := (YA.out.below hB rfl).str na ca HEA.out; (try have t1 := (F1.out.below hB rfl).str m1 d1 G1.out); (try have t2 := (F2.out.below hB rfl).str m2 d2 G2.out); (try have t3 := (F3.out.below hB rfl).str m3 d3 G3.out); (try have t4 := (F4.out.below hB rfl).str m4 d4 G4.out); (try have t5 := (F5.out.below hB rfl).str m5 d5 G5.out); (try have t6 := (F6.out.below hB rfl).str m6 d6 G6.out); (go_simp <;> with_reducible rfl)
      try simp only [Act.put, List.setIfInBounds_toArray, List.set_cons_zero, List.set_cons_succ]
      refine wpAnyH_take (i := 17) (oi := ⟨some 69, _, _, _, _, _⟩) (v := ?_) rfl (by kernel_rfl) (by kernel_rfl) (by kernel_rfl) (fun _ _ _ h => h) (Or.inl ⟨by rfl, ?_⟩) hS ?_
      rotate_left 1
      · intro w' hB; (obtain ⟨k0, k1, k2, k3⟩ := box4 HX.out hB); have s3 := (Y3.out.below hB rfl).str n3 c3 HE3.out; have s5 := (Y5.out.below hB rfl).str n5 c5 HE5.out; have sj := (YJ.out.below hB rfl).str nj cj HEJ.out; have sa := (YA.out.below hB rfl).str na ca HEA.out; (try have t1 := (F1.out.below hB rfl).str m1 d1 G1.out); (try have t2 := (F2.out.below hB rfl).str m2 d2 G2.out); (try have t3 := (F3.out.below hB rfl).str m3 d3 G3.out); (try have t4 := (F4.out.below hB rfl).str m4 d4 G4.out); (try have t5 := (F5.out.below hB rfl).str m5 d5 G5.out); (try have t6 := (F6.out.below hB rfl).str m6 d6 G6.out); (go_simp <;> with_reducible rfl)
      try simp only [Act.put, List.setIfInBounds_toArray, List.set_cons_zero, List.set_cons_succ]
      refine wpAnyH_take (i := 18) (oi := ⟨some 70, _, _, _, _, _⟩) (v := ?_) rfl (by kernel_rfl) (by kernel_rfl) (by kernel_rfl) (fun _ _ _ h => h) (Or.inl ⟨by rfl, ?_⟩) hS ?_
      rotate_left 1
      · intro w' hB; (obtain ⟨k0, k1, k2, k3⟩ := box4 HX.out hB); have s3 := (Y3.out.below hB rfl).str n3 c3 HE3.out; have s5 := (Y5.out.below hB rfl).str n5 c5 HE5.out; have sj := (YJ.out.below hB rfl).str nj cj HEJ.out; have sa := (YA.out.below hB rfl).str na ca HEA.out; (try have t1 := (F1.out.below hB rfl).str m1 d1 G1.out); (try have t2 := (F2.out.below hB rfl).str m2 d2 G2.out); (try have t3 := (F3.out.below hB rfl).str m3 d3 G3.out); (try have t4 := (F4.out.below hB rfl).str m4 d4 G4.out); (try have t5 := (F5.out.below hB rfl).str m5 d5 G5.out); (try have t6 := (F6.out.below hB rfl).str m6 d6 G6.out); (go_simp <;> with_reducible rfl)
      try simp only [Act.put, List.setIfInBounds_toArray, List.set_cons_zero, List.set_cons_succ]
      refine wpAnyH_take (i := 21) (oi := ⟨some 73, _, _, _, _, _⟩) (v := ?_) rfl (by kernel_rfl) (by kernel_rfl) (by kernel_rfl) (fun _ _ _ h => h) (Or.inl ⟨by rfl, ?_⟩) hS ?_
      rotate_left 1
      · intro w' hB; (obtain ⟨k0, k1, k2, k3⟩ := box4 HX.out hB); have s3 := (Y3.out.below hB rfl).str n3 c3 HE3.out; have s5 := (Y5.out.below hB rfl).str n5 c5 HE5.out; have sj := (YJ.out.below hB rfl).str nj cj HEJ.out; have sa := (YA.out.below hB rfl).str na ca HEA.out; (try have t1 := (F1.out.below hB rfl).str m1 d1 G1.out); (try have t2 := (F2.out.below hB rfl).str m2 d2 G2.out); (try have t3 := (F3.out.below hB rfl).str m3 d3 G3.out); (try have t4 := (F4.out.below hB rfl).str m4 d4 G4.out); (try have t5 := (F5.out.below hB rfl).str m5 d5 G5.out); (try have t6 := (F6.out.below hB rfl).str m6 d6 G6.out); (go_simp <;> with_reducible rfl)
      try simp only [Act.put, List.setIfInBounds_toArray, List.set_cons_zero, List.set_cons_succ]
      refine wpAnyH_take (i := 22) (oi := ⟨some 74, _, _, _, _, _⟩) (v := ?_) rfl (by kernel_rfl) (by kernel_rfl) (by kernel_rfl) (fun _ _ _ h => h) (Or.inl ⟨by rfl, ?_⟩) hS ?_
      rotate_left 1
      · intro w' hB; (obtain ⟨k0, k1, k2, k3⟩ := box4 HX.out hB); have s3 := (Y3.out.below hB rfl).str n3 c3 HE3.out; have s5 := (Y5.out.below hB rfl).str n5 c5 HE5.out; have sj := (YJ.out.below hB rfl).str nj cj HEJ.out; have sa := (YA.out.below hB rfl).str na ca HEA.out; (try have t1 := (F1.out.below hB rfl).str m1 d1 G1.out); (try have t2 := (F2.out.below hB rfl).str m2 d2 G2.out); (try have t3 := (F3.out.below hB rfl).str m3 d3 G3.out); (try have t4 := (F4.out.below hB rfl).str m4 d4 G4.out); (try have t5 := (F5.out.below hB rfl).str m5 d5 G5.out); (try have t6 := (F6.out.below hB rfl).str m6 d6 G6.out); (go_simp <;> with_reducible rfl)
      try simp only [Act.put, List.setIfInBounds_toArray, List.set_cons_zero, List.set_cons_succ]
      refine wpAnyH_ready (rs := [19]) (by kernel_rfl) (by simp) (AllReadyH.cons (o := ⟨some 71, _, _, _, _, _⟩) rfl (fun K hK => ?_) AllReadyH.nil)
      go_simp
      refine (wire_Signed S _ hS1 hS2).mono ?_
      rintro e z3 ⟨x3, rfl, ox, hb⟩
      rw [← hLS.out] at ox
      obtain ⟨q3, m3, d3, rfl, G, F⟩ := own_bytesN ox
      refine hK.out _ _ (hS.trans (hb.mono hS.size)) (fun _ => ?_)
      clear hK K
      have hB := hS.trans (hb.mono hS.size)
      refine wpAnyH_now hB ?_
      clear hS
      have hS := Below.refl z3.heap.size z3
      replace HX := Lib.hid (boxStays HX.out hB)
      replace HD := Lib.hid (HD.out.trans (hB.mono HD.out.size))
      replace Y3 := Lib.hid (Y3.out.below hB rfl)
      replace Y4 := Lib.hid (Y4.out.below hB rfl)
      replace Y5 := Lib.hid (Y5.out.below hB rfl)
      replace Y6 := Lib.hid (Y6.out.below hB rfl)
      replace YJ := Lib.hid (YJ.out.below hB rfl)
      replace YA := Lib.hid (YA.out.below hB rfl)
      replace YB := Lib.hid (YB.out.below hB rfl)
      replace HO2 := Lib.hid (own_later HO2.out hB (Nat.le_refl _))
      replace HO3 := Lib.hid (own_later HO3.out hB (Nat.le_refl _))
      replace HO4 := Lib.hid (own_later HO4.out hB (Nat.le_refl _))
      replace HO5 := Lib.hid (own_later HO5.out hB (Nat.le_refl _))
      replace HO6 := Lib.hid (own_later HO6.out hB (Nat.le_refl _))
      replace HJ := Lib.hid (own_later HJ.out hB (Nat.le_refl _))
      replace HALL := Lib.hid (own_later HALL.out hB (Nat.le_refl _))
      (try replace F1 := Lib.hid (F1.out.below hB rfl))
      (try replace F2 := Lib.hid (F2.out.below hB rfl))
      have F3 := Lib.hid F
      have G3 := Lib.hid G
      clear hB hb ox F G
      try simp only [Act.put, List.setIfInBounds_toArray, List.set_cons_zero, List.set_cons_succ]
      refine wpAnyH_take (i := 20) (oi := ⟨some 72, _, _, _, _, _⟩) (v := ?_) rfl (by kernel_rfl) (by kernel_rfl) (by kernel_rfl) (fun _ _ _ h => h) (Or.inl ⟨by rfl, ?_⟩) hS ?_
      rotate_left 1
      · intro w' hB; (obtain ⟨k0, k1, k2, k3⟩ := box4 HX.out hB); have s3 := (Y3.out.below hB rfl).str n3 c3 HE3.out; have s5 := (Y5.out.below hB rfl).str n5 c5 HE5.out; have sj := (YJ.out.below hB rfl).str nj cj HEJ.out; have sa := (YA.out.below hB rfl).str na ca HEA.out; (try have t1 := (F1.out.below hB rfl).str m1 d1 G1.out); (try have t2 := (F2.out.below hB rfl).str m2 d2 G2.out); (try have t3 := (F3.out.below hB rfl).str m3 d3 G3.out); (try have t4 := (F4.out.below hB rfl).str m4 d4 G4.out); (try have t5 := (F5.out.below hB rfl).str m5 d5 G5.out); (try have t6 := (F6.out.below hB rfl).str m6 d6 G6.out); (go_simp <;> with_reducible rfl)
      try simp only [Act.put, List.setIfInBounds_toArray, List.set_cons_zero, List.set_cons_succ]
      refine wpAnyH_ready (rs := [23]) (by kernel_rfl) (by simp) (AllReadyH.cons (o := ⟨some 75, _, _, _, _, _⟩) rfl (fun K hK => ?_) AllReadyH.nil)
      go_simp
      refine (ref_Signed S _ hS1 hS2).mono ?_
      rintro e z4 ⟨x4, rfl, ox, hb⟩
      rw [← hLS.out] at ox
      obtain ⟨q4, m4, d4, rfl, G, F⟩ := own_bytesN ox
      refine hK.out _ _ (hS.trans (hb.mono hS.size)) (fun _ => ?_)
      clear hK K
      have hB := hS.trans (hb.mono hS.size)
      refine wpAnyH_now hB ?_
      clear hS
      have hS := Below.refl z4.heap.size z4
      replace HX := Lib.hid (boxStays HX.out hB)
      replace HD := Lib.hid (HD.out.trans (hB.mono HD.out.size))
      replace Y3 := Lib.hid (Y3.out.below hB rfl)
      replace Y4 := Lib.hid (Y4.out.below hB rfl)
      replace Y5 := Lib.hid (Y5.out.below hB rfl)
      replace Y6 := Lib.hid (Y6.out.below hB rfl)
      replace YJ := Lib.hid (YJ.out.below hB rfl)
      replace YA := Lib.hid (YA.out.below hB rfl)
      replace YB := Lib.hid (YB.out.below hB rfl)
      replace HO2 := Lib.hid (own_later HO2.out hB (Nat.le_refl _))
      replace HO3 := Lib.hid (own_later HO3.out hB (Nat.le_refl _))
      replace HO4 := Lib.hid (own_later HO4.out hB (Nat.le_refl _))
      replace HO5 := Lib.hid (own_later HO5.out hB (Nat.le_refl _))
      replace HO6 := Lib.hid (own_later HO6.out hB (Nat.le_refl _))
      replace HJ := Lib.hid (own_later HJ.out hB (Nat.le_refl _))
      replace HALL := Lib.hid (own_later HALL.out hB (Nat.le_refl _))
      (try replace F1 := Lib.hid (F1.out.below hB rfl))
      (try replace F2 := Lib.hid (F2.out.below hB rfl))
      (try replace F3 := Lib.hid (F3.out.below hB rfl))
      have F4 := Lib.hid F
      have G4 := Lib.hid G
      clear hB hb ox F G
      try simp only [Act.put, List.setIfInBounds_toArray, List.set_cons_zero, List.set_cons_succ]
      refine wpAnyH_take (i := 24) (oi := ⟨some 76, _, _, _, _, _⟩) (v := ?_) rfl (by kernel_rfl) (by kernel_rfl) (by kernel_rfl) (fun _ _ _ h => h) (Or.inl ⟨by rfl, ?_⟩) hS ?_
      rotate_left 1
      · intro w' hB; (obtain ⟨k0, k1, k2, k3⟩ := box4 HX.out hB); have s3 := (Y3.out.below hB rfl).str n3 c3 HE3.out; have s5 := (Y5.out.below hB rfl).str n5 c5 HE5.out; have sj := (YJ.out.below hB rfl).str nj cj HEJ.out; have sa := (YA.out.below hB rfl).str na ca HEA.out; (try have t1 := (F1.out.below hB rfl).str m1 d1 G1.out); (try have t2 := (F2.out.below hB rfl).str m2 d2 G2.out); (try have t3 := (F3.out.below hB rfl).str m3 d3 G3.out); (try have t4 := (F4.out.below hB rfl).str m4 d4 G4.out); (try have t5 := (F5.out.below hB rfl).str m5 d5 G5.out); (try have t6 := (F6.out.below hB rfl).str m6 d6 G6.out); (go_simp <;> with_reducible rfl)
      try simp only [Act.put, List.setIfInBounds_toArray, List.set_cons_zero, List.set_cons_succ]
      refine wpAnyH_take (i := 25) (oi := ⟨some 77, _, _, _, _, _⟩) (v := ?_) rfl (by kernel_rfl) (by kernel_rfl) (by kernel_rfl) (fun _ _ _ h => h) (Or.inl ⟨by rfl, ?_⟩) hS ?_
      rotate_left 1
      · intro w' hB; (obtain ⟨k0, k1, k2, k3⟩ := box4 HX.out hB); have s3 := (Y3.out.below hB rfl).str n3 c3 HE3.out; have s5 := (Y5.out.below hB rfl).str n5 c5 HE5.out; have sj := (YJ.out.below hB rfl).str nj cj HEJ.out; have sa := (YA.out.below hB rfl).str na ca HEA.out; (try have t1 := (F1.out.below hB rfl).str m1 d1 G1.out); (try have t2 := (F2.out.below hB rfl).str m2 d2 G2.out); (try have t3 := (F3.out.below hB rfl).str m3 d3 G3.out); (try have t4 := (F4.out.below hB rfl).str m4 d4 G4.out); (try have t5 := (F5.out.below hB rfl).str m5 d5 G5.out); (try have t6 := (F6.out.below hB rfl).str m6 d6 G6.out); (go_simp <;> with_reducible rfl)
      try simp only [Act.put, List.setIfInBounds_toArray, List.set_cons_zero, List.set_cons_succ]
      refine wpAnyH_take (i := 26) (oi := ⟨some 78, _, _, _, _, _⟩) (v := ?_) rfl (by kernel_rfl) (by kernel_rfl) (by kernel_rfl) (fun _ _ _ h => h) (Or.inl ⟨by rfl, ?_⟩) hS ?_
      rotate_left 1
      · intro w' hB; (obtain ⟨k0, k1, k2, k3⟩ := box4 HX.out hB); have s3 := (Y3.out.below hB rfl).str n3 c3 HE3.out; have s5 := (Y5.out.below hB rfl).str n5 c5 HE5.out; have sj := (YJ.out.below hB rfl).str nj cj HEJ.out; have sa := (YA.out.below hB rfl).str na ca HEA.out; (try have t1 := (F1.out.below hB rfl).str m1 d1 G1.out); (try have t2 := (F2.out.below hB rfl).str m2 d2 G2.out); (try have t3 := (F3.out.below hB rfl).str m3 d3 G3.out); (try have t4 := (F4.out.below hB rfl).str m4 d4 G4.out); (try have t5 := (F5.out.below hB rfl).str m5 d5 G5.out); (try have t6 := (F6.out.below hB rfl).str m6 d6 G6.out); (go_simp <;> with_reducible rfl)
      try simp only [Act.put, List.setIfInBounds_toArray, List.set_cons_zero, List.set_cons_succ]
      refine wpAnyH_take (i := 27) (oi := ⟨some 79, _, _, _, _, _⟩) (v := ?_) rfl (by kernel_rfl) (by kernel_rfl) (by kernel_rfl) (fun _ _ _ h => h) (Or.inl ⟨by rfl, ?_⟩) hS ?_
      rotate_left 1
      · intro w' hB; (obtain ⟨k0, k1, k2, k3⟩ := box4 HX.out hB); have s3 := (Y3.out.below hB rfl).str n3 c3 HE3.out; have s5 := (Y5.out.below hB rfl).str n5 c5 HE5.out; have sj := (YJ.out.below hB rfl).str nj cj HEJ.out; have sa := (YA.out.below hB rfl).str na ca HEA.out; (try have t1 := (F1.out.below hB rfl).str m1 d1 G1.out); (try have t2 := (F2.out.below hB rfl).str m2 d2 G2.out); (try have t3 := (F3.out.below hB rfl).str m3 d3 G3.out); (try have t4 := (F4.out.below hB rfl).str m4 d4 G4.out); (try have t5 := (F5.out.below hB rfl).str m5 d5 G5.out); (try have t6 := (F6.out.below hB rfl).str m6 d6 G6.out); (go_simp <;> with_reducible rfl)
      try simp only [Act.put, List.setIfInBounds_toArray, List.set_cons_zero, List.set_cons_succ]
      refine wpAnyH_take (i := 28) (oi := ⟨some 80, _, _, _, _, _⟩) (v := ?_) rfl (by kernel_rfl) (by kernel_rfl) (by kernel_rfl) (fun _ _ _ h => h) (Or.inl ⟨by rfl, ?_⟩) hS ?_
      rotate_left 1
      · intro w' hB; (obtain ⟨k0, k1, k2, k3⟩ := box4 HX.out hB); have s3 := (Y3.out.below hB rfl).str n3 c3 HE3.out; have s5 := (Y5.out.below hB rfl).str n5 c5 HE5.out; have sj := (YJ.out.below hB rfl).str nj cj HEJ.out; have sa := (YA.out.below hB rfl).str na ca HEA.out; (try have t1 := (F1.out.below hB rfl).str m1 d1 G1.out); (try have t2 := (F2.out.below hB rfl).str m2 d2 G2.out); (try have t3 := (F3.out.below hB rfl).str m3 d3 G3.out); (try have t4 := (F4.out.below hB rfl).str m4 d4 G4.out); (try have t5 := (F5.out.below hB rfl).str m5 d5 G5.out); (try have t6 := (F6.out.below hB rfl).str m6 d6 G6.out); (go_simp <;> with_reducible rfl)
      try simp only [Act.put, List.setIfInBounds_toArray, List.set_cons_zero, List.set_cons_succ]
      refine wpAnyH_take (i := 29) (oi := ⟨some 81, _, _, _, _, _⟩) (v := ?_) rfl (by kernel_rfl) (by kernel_rfl) (by kernel_rfl) (fun _ _ _ h => h) (Or.inl ⟨by rfl, ?_⟩) hS ?_
      rotate_left 1
      · intro w' hB; (obtain ⟨k0, k1, k2, k3⟩ := box4 HX.out hB); have s3 := (Y3.out.below hB rfl).str n3 c3 HE3.out; have s5 := (Y5.out.below hB rfl).str n5 c5 HE5.out; have sj := (YJ.out.below hB rfl).str nj cj HEJ.out; have sa := (YA.out.below hB rfl).str na ca HEA.out; (try have t1 := (F1.out.below hB rfl).str m1 d1 G1.out); (try have t2 := (F2.out.below hB rfl).str m2 d2 G2.out); (try have t3 := (F3.out.below hB rfl).str m3 d3 G3.out); (try have t4 := (F4.out.below hB rfl).str m4 d4 G4.out); (try have t5 := (F5.out.below hB rfl).str m5 d5 G5.out); (try have t6 := (F6.out.below hB rfl).str m6 d6 G6.out); (go_simp <;> with_reducible rfl)
      try simp only [Act.put, List.setIfInBounds_toArray, List.set_cons_zero, List.set_cons_succ]
      refine wpAnyH_take (i := 32) (oi := ⟨some 84, _, _, _, _, _⟩) (v := ?_) rfl (by kernel_rfl) (by kernel_rfl) (by kernel_rfl) (fun _ _ _ h => h) (Or.inl ⟨by rfl, ?_⟩) hS ?_
      rotate_left 1
      · intro w' hB; (obtain ⟨k0, k1, k2, k3⟩ := box4 HX.out hB); have s3 := (Y3.out.below hB rfl).str n3 c3 HE3.out; have s5 := (Y5.out.below hB rfl).str n5 c5 HE5.out; have sj := (YJ.out.below hB rfl).str nj cj HEJ.out; have sa := (YA.out.below hB rfl).str na ca HEA.out; (try have t1 := (F1.out.below hB rfl).str m1 d1 G1.out); (try have t2 := (F2.out.below hB rfl).str m2 d2 G2.out); (try have t3 := (F3.out.below hB rfl).str m3 d3 G3.out); (try have t4 := (F4.out.below hB rfl).str m4 d4 G4.out); (try have t5 := (F5.out.below hB rfl).str m5 d5 G5.out); (try have t6 := (F6.out.below hB rfl).str m6 d6 G6.out); (go_simp <;> with_reducible rfl)
      try simp only [Act.put, List.setIfInBounds_toArray, List.set_cons_zero, List.set_cons_succ]
      refine wpAnyH_take (i := 33) (oi := ⟨some 85, _, _, _, _, _⟩) (v := ?_) rfl (by kernel_rfl) (by kernel_rfl) (by kernel_rfl) (fun _ _ _ h => h) (Or.inl ⟨by rfl, ?_⟩) hS ?_
      rotate_left 1
      · intro w' hB; (obtain ⟨k0, k1, k2, k3⟩ := box4 HX.out hB); have s3 := (Y3.out.below hB rfl).str n3 c3 HE3.out; have s5 := (Y5.out.below hB rfl).str n5 c5 HE5.out; have sj := (YJ.out.below hB rfl).str nj cj HEJ.out; have sa := (YA.out.below hB rfl).str na ca HEA.out; (try have t1 := (F1.out.below hB rfl).str m1 d1 G1.out); (try have t2 := (F2.out.below hB rfl).str m2 d2 G2.out); (try have t3 := (F3.out.below hB rfl).str m3 d3 G3.out); (try have t4 := (F4.out.below hB rfl).str m4 d4 G4.out); (try have t5 := (F5.out.below hB rfl).str m5 d5 G5.out); (try have t6 := (F6.out.below hB rfl).str m6 d6 G6.out); (go_simp <;> with_reducible rfl)
      try simp only [Act.put, List.setIfInBounds_toArray, List.set_cons_zero, List.set_cons_succ]
      refine wpAnyH_ready (rs := [30]) (by kernel_rfl) (by simp) (AllReadyH.cons (o := ⟨some 82, _, _, _, _, _⟩) rfl (fun K hK => ?_) AllReadyH.nil)
      go_simp
      refine (wire_Flag F _).mono ?_
      rintro e z5 ⟨x5, rfl, ox, hb⟩
      rw [← hLF.out] at ox
      obtain ⟨q5, m5, d5, rfl, G, F⟩ := own_bytesN ox
      refine hK.out _ _ (hS.trans (hb.mono hS.size)) (fun _ => ?_)
      clear hK K
      have hB := hS.trans (hb.mono hS.size)
      refine wpAnyH_now hB ?_
      clear hS
      have hS := Below.refl z5.heap.size z5
      replace HX := Lib.hid (boxStays HX.out hB)
      replace HD := Lib.hid (HD.out.trans (hB.mono HD.out.size))
      replace Y3 := Lib.hid (Y3.out.below hB rfl)
      replace Y4 := Lib.hid (Y4.out.below hB rfl)
      replace Y5 := Lib.hid (Y5.out.below hB rfl)
      replace Y6 := Lib.hid (Y6.out.below hB rfl)
      replace YJ := Lib.hid (YJ.out.below hB rfl)
      replace YA := Lib.hid (YA.out.below hB rfl)
      replace YB := Lib.hid (YB.out.below hB rfl)
      replace HO2 := Lib.hid (own_later HO2.out hB (Nat.le_refl _))
      replace HO3 := Lib.hid (own_later HO3.out hB (Nat.le_refl _))
      replace HO4 := Lib.hid (own_later HO4.out hB (Nat.le_refl _))
      replace HO5 := Lib.hid (own_later HO5.out hB (Nat.le_refl _))
      replace HO6 := Lib.hid (own_later HO6.out hB (Nat.le_refl _))
      replace HJ := Lib.hid (own_later HJ.out hB (Nat.le_refl _))
      replace HALL := Lib.hid (own_later HALL.out hB (Nat.le_refl _))
      (try replace F1 := Lib.hid (F1.out.below hB rfl))
      (try replace F2 := Lib.hid (F2.out.below hB rfl))
      (try replace F3 := Lib.hid (F3.out.below hB rfl))
      (try replace F4 := Lib.hid (F4.out.below hB rfl))
      have F5 := Lib.hid F
      have G5 := Lib.hid G
      clear hB hb ox F G
      try simp only [Act.put, List.setIfInBounds_toArray, List.set_cons_zero, List.set_cons_succ]
      refine wpAnyH_take (i := 31) (oi := ⟨some 83, _, _, _, _, _⟩) (v := ?_) rfl (by kernel_rfl) (by kernel_rfl) (by kernel_rfl) (fun _ _ _ h => h) (Or.inl ⟨by rfl, ?_⟩) hS ?_
      rotate_left 1
      · intro w' hB; (obtain ⟨k0, k1, k2, k3⟩ := box4 HX.out hB); have s3 := (Y3.out.below hB rfl).str n3 c3 HE3.out; have s5 := (Y5.out.below hB rfl).str n5 c5 HE5.out; have sj := (YJ.out.below hB rfl).str nj cj HEJ.out; have sa := (YA.out.below hB rfl).str na ca HEA.out; (try have t1 := (F1.out.below hB rfl).str m1 d1 G1.out); (try have t2 := (F2.out.below hB rfl).str m2 d2 G2.out); (try have t3 := (F3.out.below hB rfl).str m3 d3 G3.out); (try have t4 := (F4.out.below hB rfl).str m4 d4 G4.out); (try have t5 := (F5.out.below hB rfl).str m5 d5 G5.out); (try have t6 := (F6.out.below hB rfl).str m6 d6 G6.out); (go_simp <;> with_reducible rfl)
      try simp only [Act.put, List.setIfInBounds_toArray, List.set_cons_zero, List.set_cons_succ]
      refine wpAnyH_ready (rs := [34]) (by kernel_rfl) (by simp) (AllReadyH.cons (o := ⟨some 86, _, _, _, _, _⟩) rfl (fun K hK => ?_) AllReadyH.nil)
      go_simp
      refine (ref_Flag F _).mono ?_
      rintro e z6 ⟨x6, rfl, ox, hb⟩
      rw [← hLF.out] at ox
      obtain ⟨q6, m6, d6, rfl, G, F⟩ := own_bytesN ox
      refine hK.out _ _ (hS.trans (hb.mono hS.size)) (fun _ => ?_)
      clear hK K
      have hB := hS.trans (hb.mono hS.size)
      refine wpAnyH_now hB ?_
      clear hS
      have hS := Below.refl z6.heap.size z6
      replace HX := Lib.hid (boxStays HX.out hB)
      replace HD := Lib.hid (HD.out.trans (hB.mono HD.out.size))
      replace Y3 := Lib.hid (Y3.out.below hB rfl)
      replace Y4 := Lib.hid (Y4.out.below hB rfl)
      replace Y5 := Lib.hid (Y5.out.below hB rfl)
      replace Y6 := Lib.hid (Y6.out.below hB rfl)
      replace YJ := Lib.hid (YJ.out.below hB rfl)
      replace YA := Lib.hid (YA.out.below hB rfl)
      replace YB := Lib.hid (YB.out.below hB rfl)
      replace HO2 := Lib.hid (own_later HO2.out hB (Nat.le_refl _))
      replace HO3 := Lib.hid (own_later HO3.out hB (Nat.le_refl _))
      replace HO4 := Lib.hid (own_later HO4.out hB (Nat.le_refl _))
      replace HO5 := Lib.hid (own_later HO5.out hB (Nat.le_refl _))
      replace HO6 := Lib.hid (own_later HO6.out hB (Nat.le_refl _))
      replace HJ := Lib.hid (own_later HJ.out hB (Nat.le_refl _))
      replace HALL := Lib.hid (own_later HALL.out hB (Nat.le_refl _))
      (try replace F1 := Lib.hid (F1.out.below hB rfl))
      (try replace F2 := Lib.hid (F2.out.below hB rfl))
      (try replace F3 := Lib.hid (F3.out.below hB rfl))
      (try replace F4 := Lib.hid (F4.out.below hB rfl))
      (try replace F5 := Lib.hid (F5.out.below hB rfl))
      have F6 := Lib.hid F
      have G6 := Lib.hid G
      clear hB hb ox F G
      try simp only [Act.put, List.setIfInBounds_toArray, List.set_cons_zero, List.set_cons_succ]
      refine wpAnyH_take (i := 35) (oi := ⟨some 87, _, _, _, _, _⟩) (v := ?_) rfl (by kernel_rfl) (by kernel_rfl) (by kernel_rfl) (fun _ _ _ h => h) (Or.inl ⟨by rfl, ?_⟩) hS ?_
      rotate_left 1
      · intro w' hB; (obtain ⟨k0, k1, k2, k3⟩ := box4 HX.out hB); have s3 := (Y3.out.below hB rfl).str n3 c3 HE3.out; have s5 := (Y5.out.below hB rfl).str n5 c5 HE5.out; have sj := (YJ.out.below hB rfl).str nj cj HEJ.out; have sa := (YA.out.below hB rfl).str na ca HEA.out; (try have t1 := (F1.out.below hB rfl).str m1 d1 G1.out); (try have t2 := (F2.out.below hB rfl).str m2 d2 G2.out); (try have t3 := (F3.out.below hB rfl).str m3 d3 G3.out); (try have t4 := (F4.out.below hB rfl).str m4 d4 G4.out); (try have t5 := (F5.out.below hB rfl).str m5 d5 G5.out); (try have t6 := (F6.out.below hB rfl).str m6 d6 G6.out); (go_simp <;> with_reducible rfl)
      try simp only [Act.put, List.setIfInBounds_toArray, List.set_cons_zero, List.set_cons_succ]
      refine wpAnyH_take (i := 36) (oi := ⟨some 88, _, _, _, _, _⟩) (v := ?_) rfl (by kernel_rfl) (by kernel_rfl) (by kernel_rfl) (fun _ _ _ h => h) (Or.inl ⟨by rfl, ?_⟩) hS ?_
      rotate_left 1
      · intro w' hB; (obtain ⟨k0, k1, k2, k3⟩ := box4 HX.out hB); have s3 := (Y3.out.below hB rfl).str n3 c3 HE3.out; have s5 := (Y5.out.below hB rfl).str n5 c5 HE5.out; have sj := (YJ.out.below hB rfl).str nj cj HEJ.out; have sa := (YA.out.below hB rfl).str na ca HEA.out; (try have t1 := (F1.out.below hB rfl).str m1 d1 G1.out); (try have t2 := (F2.out.below hB rfl).str m2 d2 G2.out); (try have t3 := (F3.out.below hB rfl).str m3 d3 G3.out); (try have t4 := (F4.out.below hB rfl).str m4 d4 G4.out); (try have t5 := (F5.out.below hB rfl).str m5 d5 G5.out); (try have t6 := (F6.out.below hB rfl).str m6 d6 G6.out); (go_simp <;> with_reducible rfl)
      try simp only [Act.put, List.setIfInBounds_toArray, List.set_cons_zero, List.set_cons_succ]
      refine wpAnyH_take (i := 37) (oi := ⟨some 89, _, _, _, _, _⟩) (v := ?_) rfl (by kernel_rfl) (by kernel_rfl) (by kernel_rfl) (fun _ _ _ h => h) (Or.inl ⟨by rfl, ?_⟩) hS ?_
      rotate_left 1
      · intro w' hB; (obtain ⟨k0, k1, k2, k3⟩ := box4 HX.out hB); have s3 := (Y3.out.below hB rfl).str n3 c3 HE3.out; have s5 := (Y5.out.below hB rfl).str n5 c5 HE5.out; have sj := (YJ.out.below hB rfl).str nj cj HEJ.out; have sa := (YA.out.below hB rfl).str na ca HEA.out; (try have t1 := (F1.out.below hB rfl).str m1 d1 G1.out); (try have t2 := (F2.out.below hB rfl).str m2 d2 G2.out); (try have t3 := (F3.out.below hB rfl).str m3 d3 G3.out); (try have t4 := (F4.out.below hB rfl).str m4 d4 G4.out); (try have t5 := (F5.out.below hB rfl).str m5 d5 G5.out); (try have t6 := (F6.out.below hB rfl).str m6 d6 G6.out); (go_simp <;> with_reducible rfl)
      try simp only [Act.put, List.setIfInBounds_toArray, List.set_cons_zero, List.set_cons_succ]
      refine wpAnyH_take (i := 38) (oi := ⟨some 90, _, _, _, _, _⟩) (v := ?_) rfl (by kernel_rfl) (by kernel_rfl) (by kernel_rfl) (fun _ _ _ h => h) (Or.inl ⟨by rfl, ?_⟩) hS ?_
      rotate_left 1
      · intro w' hB; (obtain ⟨k0, k1, k2, k3⟩ := box4 HX.out hB); have s3 := (Y3.out.below hB rfl).str n3 c3 HE3.out; have s5 := (Y5.out.below hB rfl).str n5 c5 HE5.out; have sj := (YJ.out.below hB rfl).str nj cj HEJ.out; have sa := (YA.out.below hB rfl).str na ca HEA.out; (try have t1 := (F1.out.below hB rfl).str m1 d1 G1.out); (try have t2 := (F2.out.below hB rfl).str m2 d2 G2.out); (try have t3 := (F3.out.below hB rfl).str m3 d3 G3.out); (try have t4 := (F4.out.below hB rfl).str m4 d4 G4.out); (try have t5 := (F5.out.below hB rfl).str m5 d5 G5.out); (try have t6 := (F6.out.below hB rfl).str m6 d6 G6.out); (go_simp <;> with_reducible rfl)
      try simp only [Act.put, List.setIfInBounds_toArray, List.set_cons_zero, List.set_cons_succ]
      refine wpAnyH_take (i := 39) (oi := ⟨some 91, _, _, _, _, _⟩) (v := ?_) rfl (by kernel_rfl) (by kernel_rfl) (by kernel_rfl) (fun _ _ _ h => h) (Or.inl ⟨by rfl, ?_⟩) hS ?_
      rotate_left 1
      · intro w' hB; (obtain ⟨k0, k1, k2, k3⟩ := box4 HX.out hB); have s3 := (Y3.out.below hB rfl).str n3 c3 HE3.out; have s5 := (Y5.out.below hB rfl).str n5 c5 HE5.out; have sj := (YJ.out.below hB rfl).str nj cj HEJ.out; have sa := (YA.out.below hB rfl).str na ca HEA.out; (try have t1 := (F1.out.below hB rfl).str m1 d1 G1.out); (try have t2 := (F2.out.below hB rfl).str m2 d2 G2.out); (try have t3 := (F3.out.below hB rfl).str m3 d3 G3.out); (try have t4 := (F4.out.below hB rfl).str m4 d4 G4.out); (try have t5 := (F5.out.below hB rfl).str m5 d5 G5.out); (try have t6 := (F6.out.below hB rfl).str m6 d6 G6.out); (go_simp <;> with_reducible rfl)
      try simp only [Act.put, List.setIfInBounds_toArray, List.set_cons_zero, List.set_cons_succ]
      refine wpAnyH_take (i := 40) (oi := ⟨some 92, _, _, _, _, _⟩) (v := ?_) rfl (by kernel_rfl) (by kernel_rfl) (by kernel_rfl) (fun _ _ _ h => h) (Or.inl ⟨by rfl, ?_⟩) hS ?_
      rotate_left 1
      · intro w' hB; (obtain ⟨k0, k1, k2, k3⟩ := box4 HX.out hB); have s3 := (Y3.out.below hB rfl).str n3 c3 HE3.out; have s5 := (Y5.out.below hB rfl).str n5 c5 HE5.out; have sj := (YJ.out.below hB rfl).str nj cj HEJ.out; have sa := (YA.out.below hB rfl).str na ca HEA.out; (try have t1 := (F1.out.below hB rfl).str m1 d1 G1.out); (try have t2 := (F2.out.below hB rfl).str m2 d2 G2.out); (try have t3 := (F3.out.below hB rfl).str m3 d3 G3.out); (try have t4 := (F4.out.below hB rfl).str m4 d4 G4.out); (try have t5 := (F5.out.below hB rfl).str m5 d5 G5.out); (try have t6 := (F6.out.below hB rfl).str m6 d6 G6.out); (go_simp <;> with_reducible rfl)
      try simp only [Act.put, List.setIfInBounds_toArray, List.set_cons_zero, List.set_cons_succ]
      refine wpAnyH_take (i := 41) (oi := ⟨some 93, _, _, _, _, _⟩) (v := ?_) rfl (by kernel_rfl) (by kernel_rfl) (by kernel_rfl) (fun _ _ _ h => h) (Or.inl ⟨by rfl, ?_⟩) hS ?_
      rotate_left 1
      · intro w' hB; (obtain ⟨k0, k1, k2, k3⟩ := box4 HX.out hB); have s3 := (Y3.out.below hB rfl).str n3 c3 HE3.out; have s5 := (Y5.out.below hB rfl).str n5 c5 HE5.out; have sj := (YJ.out.below hB rfl).str nj cj HEJ.out; have sa := (YA.out.below hB rfl).str na ca HEA.out; (try have t1 := (F1.out.below hB rfl).str m1 d1 G1.out); (try have t2 := (F2.out.below hB rfl).str m2 d2 G2.out); (try have t3 := (F3.out.below hB rfl).str m3 d3 G3.out); (try have t4 := (F4.out.below hB rfl).str m4 d4 G4.out); (try have t5 := (F5.out.below hB rfl).str m5 d5 G5.out); (try have t6 := (F6.out.below hB rfl).str m6 d6 G6.out); (go_simp <;> with_reducible rfl)
      try simp only [Act.put, List.setIfInBounds_toArray, List.set_cons_zero, List.set_cons_succ]
      refine wpAnyH_take (i := 42) (oi := ⟨some 94, _, _, _, _, _⟩) (v := ?_) rfl (by kernel_rfl) (by kernel_rfl) (by kernel_rfl) (fun _ _ _ h => h) (Or.inl ⟨by rfl, ?_⟩) hS ?_
      rotate_left 1
      · intro w' hB; (obtain ⟨k0, k1, k2, k3⟩ := box4 HX.out hB); have s3 := (Y3.out.below hB rfl).str n3 c3 HE3.out; have s5 := (Y5.out.below hB rfl).str n5 c5 HE5.out; have sj := (YJ.out.below hB rfl).str nj cj HEJ.out; have sa := (YA.out.below hB rfl).str na ca HEA.out; (try have t1 := (F1.out.below hB rfl).str m1 d1 G1.out); (try have t2 := (F2.out.below hB rfl).str m2 d2 G2.out); (try have t3 := (F3.out.below hB rfl).str m3 d3 G3.out); (try have t4 := (F4.out.below hB rfl).str m4 d4 G4.out); (try have t5 := (F5.out.below hB rfl).str m5 d5 G5.out); (try have t6 := (F6.out.below hB rfl).str m6 d6 G6.out); (go_simp <;> with_reducible rfl)
      try simp only [Act.put, List.setIfInBounds_toArray, List.set_cons_zero, List.set_cons_succ]
      refine wpAnyH_take (i := 43) (oi := ⟨some 95, _, _, _, _, _⟩) (v := ?_) rfl (by kernel_rfl) (by kernel_rfl) (by kernel_rfl) (fun _ _ _ h => h) (Or.inl ⟨by rfl, ?_⟩) hS ?_
      rotate_left 1
      · intro w' hB; (obtain ⟨k0, k1, k2, k3⟩ := box4 HX.out hB); have s3 := (Y3.out.below hB rfl).str n3 c3 HE3.out; have s5 := (Y5.out.below hB rfl).str n5 c5 HE5.out; have sj := (YJ.out.below hB rfl).str nj cj HEJ.out; have sa := (YA.out.below hB rfl).str na ca HEA.out; (try have t1 := (F1.out.below hB rfl).str m1 d1 G1.out); (try have t2 := (F2.out.below hB rfl).str m2 d2 G2.out); (try have t3 := (F3.out.below hB rfl).str m3 d3 G3.out); (try have t4 := (F4.out.below hB rfl).str m4 d4 G4.out); (try have t5 := (F5.out.below hB rfl).str m5 d5 G5.out); (try have t6 := (F6.out.below hB rfl).str m6 d6 G6.out); (go_simp <;> with_reducible rfl)
      try simp only [Act.put, List.setIfInBounds_toArray, List.set_cons_zero, List.set_cons_succ]
      refine wpAnyH_take (i := 44) (oi := ⟨some 96, _, _, _, _, _⟩) (v := ?_) rfl (by kernel_rfl) (by kernel_rfl) (by kernel_rfl) (fun _ _ _ h => h) (Or.inl ⟨by rfl, ?_⟩) hS ?_
      rotate_left 1
      · intro w' hB; (obtain ⟨k0, k1, k2, k3⟩ := box4 HX.out hB); have s3 := (Y3.out.below hB rfl).str n3 c3 HE3.out; have s5 := (Y5.out.below hB rfl).str n5 c5 HE5.out; have sj := (YJ.out.below hB rfl).str nj cj HEJ.out; have sa := (YA.out.below hB rfl).str na ca HEA.out; (try have t1 := (F1.out.below hB rfl).str m1 d1 G1.out); (try have t2 := (F2.out.below hB rfl).str m2 d2 G2.out); (try have t3 := (F3.out.below hB rfl).str m3 d3 G3.out); (try have t4 := (F4.out.below hB rfl).str m4 d4 G4.out); (try have t5 := (F5.out.below hB rfl).str m5 d5 G5.out); (try have t6 := (F6.out.below hB rfl).str m6 d6 G6.out); (go_simp <;> with_reducible rfl)
      try simp only [Act.put, List.setIfInBounds_toArray, List.set_cons_zero, List.set_cons_succ]
      refine wpAnyH_done (by kernel_rfl) (NoPanic.normal ?_) _
      clear hS
      go_wp2_with fail
      have BL : Hid (LB.length ≤ 35184372088832) := Lib.hid (by rw [hLB.out, List.length_append]; have := enc_length B.length; omega)
      have NL : Hid (LN.length ≤ 35184372088832) := Lib.hid (by rw [hLN.out]; have := enc_length N; omega)
      have JL : Hid (LJ.length ≤ 35184372088832) := Lib.hid (by rw [hLJ.out]; omega)
      have LO3 : Hid (∀ k, (Value.slice a3 n3 c3).ownBlock = some k → w2.heap.size ≤ k) := Lib.hid (fun k hk => (HO3.out.lt k hk).1)
      have LO5 : Hid (∀ k, (Value.slice a5 n5 c5).ownBlock = some k → w4.heap.size ≤ k) := Lib.hid (fun k hk => (HO5.out.lt k hk).1)
      have LOJ : Hid (∀ k, (Value.slice aj nj cj).ownBlock = some k → w7.heap.size ≤ k) := Lib.hid (fun k hk => (HJ.out.lt k hk).1)
      have SZ : Hid (w.heap.size + 1 ≤ w2.heap.size ∧ w2.heap.size ≤ w3.heap.size ∧ w3.heap.size ≤ w4.heap.size ∧ w4.heap.size ≤ w5.heap.size ∧ w5.heap.size ≤ w6.heap.size ∧ w6.heap.size ≤ w7.heap.size ∧ w.heap.size ≤ z6.heap.size) := Lib.hid ⟨by have := HGM.out; omega, HS3.out, HS4.out, HS5.out, HS6.out, HS7.out, HD.out.size⟩
      clear HS3 HS4 HS5 HS6 HS7 HS8 Y3 Y4 Y5 Y6 YJ YA F1 F2 F3 F4 F5 F6 G1 G2 G3 G4 G5 G6
      refine (spoil_own LB _ _ _ HO3.out BL.out).mono ?_
      rintro e y1 ⟨rfl, hg⟩
      have u := U3.out
      have lo := LO3.out
      have sz := SZ.out
      replace HO4 := Lib.hid (own_keepA HO4.out hg u)
      replace HO5 := Lib.hid (own_keepA HO5.out hg (fun k hk => Nat.lt_of_lt_of_le (u k hk) sz.2.2.1))
      replace HO6 := Lib.hid (own_keepA HO6.out hg (fun k hk => by have := u k hk; omega))
      replace HALL := Lib.hid (own_keepA HALL.out hg (fun k hk => by have := u k hk; omega))
      replace HJ := Lib.hid (own_keepA HJ.out hg (fun k hk => by have := u k hk; omega))
      replace HO2 := Lib.hid (own_keepB HO2.out hg w2.heap.size (fun k hk => by have : gm = k := (by simpa [Value.ownBlock] using hk); have := HGM.out; omega) lo)
      replace HX := Lib.hid ((hg.block w.heap.size (Array.getElem?_eq_some_iff.1 HX.out).1 (fun e => by have := lo _ e.symm; omega)).trans HX.out)
      replace HD := Lib.hid (below_keep HD.out hg sz.2.2.2.2.2.2 (fun k hk => by have := lo k hk; omega))
      have SZ2 : Hid (w.heap.size ≤ y1.heap.size) := Lib.hid HD.out.size
      clear u lo sz hg HO3 LO3
      go_wp2_with fail
      refine (spoil_own LN _ _ _ HO5.out NL.out).mono ?_
      rintro e y2 ⟨rfl, hg⟩
      have u := U5.out
      have lo := LO5.out
      have sz := SZ.out
      replace HO4 := Lib.hid (own_keepB HO4.out hg w4.heap.size U4.out lo)
      replace HO6 := Lib.hid (own_keepA HO6.out hg u)
      replace HALL := Lib.hid (own_keepA HALL.out hg (fun k hk => by have := u k hk; omega))
      replace HJ := Lib.hid (own_keepA HJ.out hg (fun k hk => by have := u k hk; omega))
      replace HO2 := Lib.hid (own_keepB HO2.out hg w4.heap.size (fun k hk => by have : gm = k := (by simpa [Value.ownBlock] using hk); have := HGM.out; omega) lo)
      replace HX := Lib.hid ((hg.block w.heap.size (Array.getElem?_eq_some_iff.1 HX.out).1 (fun e => by have := lo _ e.symm; omega)).trans HX.out)
      replace HD := Lib.hid (below_keep HD.out hg SZ2.out (fun k hk => by have := lo k hk; omega))
      have SZ3 : Hid (w.heap.size ≤ y2.heap.size) := Lib.hid HD.out.size
      clear u lo sz hg HO5 LO5
      go_wp2_with fail
      refine (spoil_own LJ _ _ _ HJ.out JL.out).mono ?_
      rintro e y3 ⟨rfl, hg⟩
      have lo := LOJ.out
      have sz := SZ.out
      replace HO4 := Lib.hid (own_keepB HO4.out hg w7.heap.size (fun k hk => by have := U4.out k hk; omega) lo)
      replace HO6 := Lib.hid (own_keepB HO6.out hg w7.heap.size (fun k hk => by have := U6.out k hk; omega) lo)
      replace HALL := Lib.hid (own_keepB HALL.out hg w7.heap.size UA.out lo)
      replace HO2 := Lib.hid (own_keepB HO2.out hg w7.heap.size (fun k hk => by have : gm = k := (by simpa [Value.ownBlock] using hk); have := HGM.out; omega) lo)
      replace HX := Lib.hid ((hg.block w.heap.size (Array.getElem?_eq_some_iff.1 HX.out).1 (fun e => by have := lo _ e.symm; omega)).trans HX.out)
      replace HD := Lib.hid (below_keep HD.out hg SZ3.out (fun k hk => by have := lo k hk; omega))
      clear lo sz hg HJ LOJ
      have CA : Hid (LJ.length ≤ ca) := Lib.hid (by obtain ⟨a', c', h, hle, _⟩ := own_slice HALL.out; simp only [Value.slice.injEq] at h; omega)
      have Y4 := Lib.hid (own_bytes HO4.out)
      have Y6 := Lib.hid (own_bytes HO6.out)
      have YA := Lib.hid (own_bytes HALL.out)
      have YO := Lib.hid (own_bytes HO2.out)
      have YB := Lib.hid (HBy.out.below HD.out rfl)
      clear HO4 HO6 HALL HO2
      go_wp2_with fail
      have HK := Lib.hid (join_take_le ll)
      have NA : Hid (na ≤ 1048576) := Lib.hid (by rw [HEA.out, hLJ.out]; exact hsum)
      go_loopw [13, 14] (fun i o wr => ∃ k q : Nat, k ≤ ll.length ∧ i = .int .i64 k ∧ o = .int .i64 (ll.take k).flatten.length ∧ wr = y3.drewN q) (fun i _ _ => ll.length - (intOf i).toNat)
      case atStart => exact ⟨0, 0, by omega, rfl, rfl, rfl⟩
      case round =>
        obtain ⟨k, q, hk, rfl, rfl, rfl⟩ := hrel
        by_cases hlt : k < ll.length
        · obtain ⟨b, off, a', cap', rfl, hc, hla, hlm⟩ := (HL.out.below HD.out rfl) k hlt
          have HF := Lib.hid (join_take_succ ll k hlt)
          have h1 := HK.out (k + 1)
          have HF1 : Hid ((ll.take (k + 1)).flatten.length = (ll.take k).flatten.length + ll[k].length) := Lib.hid (by rw [HF.out, List.length_append])
          have h2 : (ll.take k).flatten.length + ll[k].length ≤ LJ.length := by have := HF1.out; rw [hLJ.out]; omega
          have h3 := HEA.out
          have h4 := CA.out
          have h5 := NA.out
          clear h1
          have c1 := fun q => BytesAt.str (w := y3.drewN q) (a := a') (l := ll[k]) hla _ cap' rfl
          have HLA := Lib.hid hla; clear hla
          have HDT := Lib.hid (drop_take_flat ll k hlt)
          have c2 := fun q => BytesAt.str (w := y3.drewN q) (YA.out.sub ca (ll.take k).flatten.length ll[k].length h2 CA.out) ll[k].length (ca - (ll.take k).flatten.length) (by rw [List.length_take, List.length_drop]; omega)
          rw [hLJ.out, HDT.out] at c2
          unfold subAddr at c2
          clear HDT
          generalize (ll.take k).flatten.length = o at *
          generalize ll[k] = l at *
          have hk0 : (0 : Int) ≤ (k : Int) := by omega
          have hk1 : (k : Int) < (ll.length : Int) := by omega
          have hw1 : IntKind.i64.wrap ((o : Int) + (l.length : Int)) = (o : Int) + (l.length : Int) := i64_wrap (by omega) (by omega)
          have hw2 : (0 : Int) ≤ (o : Int) + (l.length : Int) := by omega
          have hw4 : (o : Int) + (l.length : Int) ≤ (ca : Int) := by omega
          have hw3 : ((o : Int) + (l.length : Int)).toNat = o + l.length := by omega
          go_wp2_with fail
          go_quiet (fail)
          clear hw1 hw2 hw3 hw4 c1 c2 hk0 hk1
          go_wp2_with fail
          go_roundw
          case rel => exact ⟨k + 1, _, by omega, by go_num, by rw [HF1.out]; go_num, rfl⟩
          case measure => simp [intOf]; omega
        · obtain rfl : k = ll.length := by omega
          have HXq := Lib.hid (boxStays HX.out ((Below.refl _ _).drew : Below y3.heap.size y3 y3.drew))
          have DQ : Below y3.heap.size y3 (y3.drewN q) := below_drews (Below.refl _ _) q
          replace HXq := Lib.hid (boxStays HX.out DQ)
          replace HD := Lib.hid (HD.out.trans (DQ.mono HD.out.size))
          replace Y4 := Lib.hid (Y4.out.below DQ rfl)
          replace Y6 := Lib.hid (Y6.out.below DQ rfl)
          replace YO := Lib.hid (YO.out.below DQ rfl)
          replace YB := Lib.hid (YB.out.below DQ rfl)
          clear DQ HX YA hk hlt
          have HX := HXq
          clear HXq
          generalize y3.drewN q = y4 at *
          go_wp2_with fail
          have HCAT : Hid ((⟨B.toArray⟩ : ByteArray) ++ (⟨#[119]⟩ : ByteArray) = ⟨(B ++ [119]).toArray⟩) := Lib.hid (by apply ByteArray.ext; simp)
          have hcc : ¬ 9223372036854775807 < B.length + 1 := by omega
          refine wp_region_noPanic ?_
          refine wp_region_held_drew (S := fun w' => Below y4.heap.size y4 w') (by kernel_rfl) (Below.refl _ _).drew (fun hS => ?_)
          refine wpAnyH_take (i := 0) (oi := ⟨some 133, _, _, _, _, _⟩) (v := ?_) rfl (by kernel_rfl) (by kernel_rfl) (by kernel_rfl) (fun _ _ _ h => h) (Or.inl ⟨by rfl, ?_⟩) hS ?_
          rotate_left 1
          · intro w' hB; (obtain ⟨k0, k1, k2, k3⟩ := box4 HX.out hB); have s4 := (Y4.out.below hB rfl).str n4 c4 HE4.out; have s6 := (Y6.out.below hB rfl).str n6 c6 HE6.out; have s0 := (YO.out.below hB rfl).str (B.length + 1) capm (by simp); have sb := (YB.out.below hB rfl).str B.length cap0 rfl; (try have t1 := (F1.out.below hB rfl).str m1 d1 G1.out); (try have t2 := (F2.out.below hB rfl).str m2 d2 G2.out); have hcat := HCAT.out; (go_simp <;> with_reducible rfl)
          try simp only [Act.put, List.setIfInBounds_toArray, List.set_cons_zero, List.set_cons_succ]
          refine wpAnyH_take (i := 1) (oi := ⟨some 134, _, _, _, _, _⟩) (v := ?_) rfl (by kernel_rfl) (by kernel_rfl) (by kernel_rfl) (fun _ _ _ h => h) (Or.inl ⟨by rfl, ?_⟩) hS ?_
          rotate_left 1
          · intro w' hB; (obtain ⟨k0, k1, k2, k3⟩ := box4 HX.out hB); have s4 := (Y4.out.below hB rfl).str n4 c4 HE4.out; have s6 := (Y6.out.below hB rfl).str n6 c6 HE6.out; have s0 := (YO.out.below hB rfl).str (B.length + 1) capm (by simp); have sb := (YB.out.below hB rfl).str B.length cap0 rfl; (try have t1 := (F1.out.below hB rfl).str m1 d1 G1.out); (try have t2 := (F2.out.below hB rfl).str m2 d2 G2.out); have hcat := HCAT.out; (go_simp <;> with_reducible rfl)
          try simp only [Act.put, List.setIfInBounds_toArray, List.set_cons_zero, List.set_cons_succ]
          refine wpAnyH_take (i := 2) (oi := ⟨some 135, _, _, _, _, _⟩) (v := ?_) rfl (by kernel_rfl) (by kernel_rfl) (by kernel_rfl) (fun _ _ _ h => h) (Or.inl ⟨by rfl, ?_⟩) hS ?_
          rotate_left 1
          · intro w' hB; (obtain ⟨k0, k1, k2, k3⟩ := box4 HX.out hB); have s4 := (Y4.out.below hB rfl).str n4 c4 HE4.out; have s6 := (Y6.out.below hB rfl).str n6 c6 HE6.out; have s0 := (YO.out.below hB rfl).str (B.length + 1) capm (by simp); have sb := (YB.out.below hB rfl).str B.length cap0 rfl; (try have t1 := (F1.out.below hB rfl).str m1 d1 G1.out); (try have t2 := (F2.out.below hB rfl).str m2 d2 G2.out); have hcat := HCAT.out; (go_simp <;> with_reducible rfl)
          try simp only [Act.put, List.setIfInBounds_toArray, List.set_cons_zero, List.set_cons_succ]
          refine wpAnyH_take (i := 3) (oi := ⟨some 136, _, _, _, _, _⟩) (v := ?_) rfl (by kernel_rfl) (by kernel_rfl) (by kernel_rfl) (fun _ _ _ h => h) (Or.inl ⟨by rfl, ?_⟩) hS ?_
          rotate_left 1
          · intro w' hB; (obtain ⟨k0, k1, k2, k3⟩ := box4 HX.out hB); have s4 := (Y4.out.below hB rfl).str n4 c4 HE4.out; have s6 := (Y6.out.below hB rfl).str n6 c6 HE6.out; have s0 := (YO.out.below hB rfl).str (B.length + 1) capm (by simp); have sb := (YB.out.below hB rfl).str B.length cap0 rfl; (try have t1 := (F1.out.below hB rfl).str m1 d1 G1.out); (try have t2 := (F2.out.below hB rfl).str m2 d2 G2.out); have hcat := HCAT.out; (go_simp <;> with_reducible rfl)
          try simp only [Act.put, List.setIfInBounds_toArray, List.set_cons_zero, List.set_cons_succ]
          refine wpAnyH_ready (rs := [4]) (by kernel_rfl) (by simp) (AllReadyH.cons (o := ⟨some 137, _, _, _, _, _⟩) rfl (fun K hK => ?_) AllReadyH.nil)
          go_simp
          refine (ref_Bytes B _ _ _ _ (YB.out.below hS rfl) rfl (by omega)).mono ?_
          rintro e p1 ⟨x1, rfl, ox, hb⟩
          rw [← hLB.out] at ox
          obtain ⟨q1, m1, d1, rfl, G, F⟩ := own_bytesN ox
          refine hK.out _ _ (hS.trans (hb.mono hS.size)) (fun _ => ?_)
          clear hK K
          have hB := hS.trans (hb.mono hS.size)
          refine wpAnyH_now hB ?_
          clear hS
          have hS := Below.refl p1.heap.size p1
          replace HX := Lib.hid (boxStays HX.out hB)
          replace HD := Lib.hid (HD.out.trans (hB.mono HD.out.size))
          replace Y4 := Lib.hid (Y4.out.below hB rfl)
          replace Y6 := Lib.hid (Y6.out.below hB rfl)
          replace YO := Lib.hid (YO.out.below hB rfl)
          replace YB := Lib.hid (YB.out.below hB rfl)
          
          have F1 := Lib.hid F
          have G1 := Lib.hid G
          clear hB hb ox F G
          try simp only [Act.put, List.setIfInBounds_toArray, List.set_cons_zero, List.set_cons_succ]
          refine wpAnyH_take (i := 5) (oi := ⟨some 138, _, _, _, _, _⟩) (v := ?_) rfl (by kernel_rfl) (by kernel_rfl) (by kernel_rfl) (fun _ _ _ h => h) (Or.inl ⟨by rfl, ?_⟩) hS ?_
          rotate_left 1
          · intro w' hB; (obtain ⟨k0, k1, k2, k3⟩ := box4 HX.out hB); have s4 := (Y4.out.below hB rfl).str n4 c4 HE4.out; have s6 := (Y6.out.below hB rfl).str n6 c6 HE6.out; have s0 := (YO.out.below hB rfl).str (B.length + 1) capm (by simp); have sb := (YB.out.below hB rfl).str B.length cap0 rfl; (try have t1 := (F1.out.below hB rfl).str m1 d1 G1.out); (try have t2 := (F2.out.below hB rfl).str m2 d2 G2.out); have hcat := HCAT.out; (go_simp <;> with_reducible rfl)
          try simp only [Act.put, List.setIfInBounds_toArray, List.set_cons_zero, List.set_cons_succ]
          refine wpAnyH_take (i := 6) (oi := ⟨some 139, _, _, _, _, _⟩) (v := ?_) rfl (by kernel_rfl) (by kernel_rfl) (by kernel_rfl) (fun _ _ _ h => h) (Or.inl ⟨by rfl, ?_⟩) hS ?_
          rotate_left 1
          · intro w' hB; (obtain ⟨k0, k1, k2, k3⟩ := box4 HX.out hB); have s4 := (Y4.out.below hB rfl).str n4 c4 HE4.out; have s6 := (Y6.out.below hB rfl).str n6 c6 HE6.out; have s0 := (YO.out.below hB rfl).str (B.length + 1) capm (by simp); have sb := (YB.out.below hB rfl).str B.length cap0 rfl; (try have t1 := (F1.out.below hB rfl).str m1 d1 G1.out); (try have t2 := (F2.out.below hB rfl).str m2 d2 G2.out); have hcat := HCAT.out; (go_simp <;> with_reducible rfl)
          try simp only [Act.put, List.setIfInBounds_toArray, List.set_cons_zero, List.set_cons_succ]
          refine wpAnyH_take (i := 7) (oi := ⟨some 140, _, _, _, _, _⟩) (v := ?_) rfl (by kernel_rfl) (by kernel_rfl) (by kernel_rfl) (fun _ _ _ h => h) (Or.inl ⟨by rfl, ?_⟩) hS ?_
          rotate_left 1
          · intro w' hB; (obtain ⟨k0, k1, k2, k3⟩ := box4 HX.out hB); have s4 := (Y4.out.below hB rfl).str n4 c4 HE4.out; have s6 := (Y6.out.below hB rfl).str n6 c6 HE6.out; have s0 := (YO.out.below hB rfl).str (B.length + 1) capm (by simp); have sb := (YB.out.below hB rfl).str B.length cap0 rfl; (try have t1 := (F1.out.below hB rfl).str m1 d1 G1.out); (try have t2 := (F2.out.below hB rfl).str m2 d2 G2.out); have hcat := HCAT.out; (go_simp <;> with_reducible rfl)
          try simp only [Act.put, List.setIfInBounds_toArray, List.set_cons_zero, List.set_cons_succ]
          refine wpAnyH_take (i := 8) (oi := ⟨some 141, _, _, _, _, _⟩) (v := ?_) rfl (by kernel_rfl) (by kernel_rfl) (by kernel_rfl) (fun _ _ _ h => h) (Or.inl ⟨by rfl, ?_⟩) hS ?_
          rotate_left 1
          · intro w' hB; (obtain ⟨k0, k1, k2, k3⟩ := box4 HX.out hB); have s4 := (Y4.out.below hB rfl).str n4 c4 HE4.out; have s6 := (Y6.out.below hB rfl).str n6 c6 HE6.out; have s0 := (YO.out.below hB rfl).str (B.length + 1) capm (by simp); have sb := (YB.out.below hB rfl).str B.length cap0 rfl; (try have t1 := (F1.out.below hB rfl).str m1 d1 G1.out); (try have t2 := (F2.out.below hB rfl).str m2 d2 G2.out); have hcat := HCAT.out; (go_simp <;> with_reducible rfl)
          try simp only [Act.put, List.setIfInBounds_toArray, List.set_cons_zero, List.set_cons_succ]
          refine wpAnyH_take (i := 9) (oi := ⟨some 142, _, _, _, _, _⟩) (v := ?_) rfl (by kernel_rfl) (by kernel_rfl) (by kernel_rfl) (fun _ _ _ h => h) (Or.inl ⟨by rfl, ?_⟩) hS ?_
          rotate_left 1
          · intro w' hB; (obtain ⟨k0, k1, k2, k3⟩ := box4 HX.out hB); have s4 := (Y4.out.below hB rfl).str n4 c4 HE4.out; have s6 := (Y6.out.below hB rfl).str n6 c6 HE6.out; have s0 := (YO.out.below hB rfl).str (B.length + 1) capm (by simp); have sb := (YB.out.below hB rfl).str B.length cap0 rfl; (try have t1 := (F1.out.below hB rfl).str m1 d1 G1.out); (try have t2 := (F2.out.below hB rfl).str m2 d2 G2.out); have hcat := HCAT.out; (go_simp <;> with_reducible rfl)
          try simp only [Act.put, List.setIfInBounds_toArray, List.set_cons_zero, List.set_cons_succ]
          refine wpAnyH_take (i := 10) (oi := ⟨some 143, _, _, _, _, _⟩) (v := ?_) rfl (by kernel_rfl) (by kernel_rfl) (by kernel_rfl) (fun _ _ _ h => h) (Or.inl ⟨by rfl, ?_⟩) hS ?_
          rotate_left 1
          · intro w' hB; (obtain ⟨k0, k1, k2, k3⟩ := box4 HX.out hB); have s4 := (Y4.out.below hB rfl).str n4 c4 HE4.out; have s6 := (Y6.out.below hB rfl).str n6 c6 HE6.out; have s0 := (YO.out.below hB rfl).str (B.length + 1) capm (by simp); have sb := (YB.out.below hB rfl).str B.length cap0 rfl; (try have t1 := (F1.out.below hB rfl).str m1 d1 G1.out); (try have t2 := (F2.out.below hB rfl).str m2 d2 G2.out); have hcat := HCAT.out; (go_simp <;> with_reducible rfl)
          try simp only [Act.put, List.setIfInBounds_toArray, List.set_cons_zero, List.set_cons_succ]
          refine wpAnyH_take (i := 11) (oi := ⟨some 144, _, _, _, _, _⟩) (v := ?_) rfl (by kernel_rfl) (by kernel_rfl) (by kernel_rfl) (fun _ _ _ h => h) (Or.inl ⟨by rfl, ?_⟩) hS ?_
          rotate_left 1
          · intro w' hB; (obtain ⟨k0, k1, k2, k3⟩ := box4 HX.out hB); have s4 := (Y4.out.below hB rfl).str n4 c4 HE4.out; have s6 := (Y6.out.below hB rfl).str n6 c6 HE6.out; have s0 := (YO.out.below hB rfl).str (B.length + 1) capm (by simp); have sb := (YB.out.below hB rfl).str B.length cap0 rfl; (try have t1 := (F1.out.below hB rfl).str m1 d1 G1.out); (try have t2 := (F2.out.below hB rfl).str m2 d2 G2.out); have hcat := HCAT.out; (go_simp <;> with_reducible rfl)
          try simp only [Act.put, List.setIfInBounds_toArray, List.set_cons_zero, List.set_cons_succ]
          refine wpAnyH_ready (rs := [12]) (by kernel_rfl) (by simp) (AllReadyH.cons (o := ⟨some 145, _, _, _, _, _⟩) rfl (fun K hK => ?_) AllReadyH.nil)
          go_simp
          refine (ref_Number _ N _ rfl hN).mono ?_
          rintro e p2 ⟨x2, rfl, ox, hb⟩
          rw [← hLN.out] at ox
          obtain ⟨q2, m2, d2, rfl, G, F⟩ := own_bytesN ox
          refine hK.out _ _ (hS.trans (hb.mono hS.size)) (fun _ => ?_)
          clear hK K
          have hB := hS.trans (hb.mono hS.size)
          refine wpAnyH_now hB ?_
          clear hS
          have hS := Below.refl p2.heap.size p2
          replace HX := Lib.hid (boxStays HX.out hB)
          replace HD := Lib.hid (HD.out.trans (hB.mono HD.out.size))
          replace Y4 := Lib.hid (Y4.out.below hB rfl)
          replace Y6 := Lib.hid (Y6.out.below hB rfl)
          replace YO := Lib.hid (YO.out.below hB rfl)
          replace YB := Lib.hid (YB.out.below hB rfl)
          (try replace F1 := Lib.hid (F1.out.below hB rfl))
          have F2 := Lib.hid F
          have G2 := Lib.hid G
          clear hB hb ox F G
          try simp only [Act.put, List.setIfInBounds_toArray, List.set_cons_zero, List.set_cons_succ]
          refine wpAnyH_take (i := 13) (oi := ⟨some 146, _, _, _, _, _⟩) (v := ?_) rfl (by kernel_rfl) (by kernel_rfl) (by kernel_rfl) (fun _ _ _ h => h) (Or.inl ⟨by rfl, ?_⟩) hS ?_
          rotate_left 1
          · intro w' hB; (obtain ⟨k0, k1, k2, k3⟩ := box4 HX.out hB); have s4 := (Y4.out.below hB rfl).str n4 c4 HE4.out; have s6 := (Y6.out.below hB rfl).str n6 c6 HE6.out; have s0 := (YO.out.below hB rfl).str (B.length + 1) capm (by simp); have sb := (YB.out.below hB rfl).str B.length cap0 rfl; (try have t1 := (F1.out.below hB rfl).str m1 d1 G1.out); (try have t2 := (F2.out.below hB rfl).str m2 d2 G2.out); have hcat := HCAT.out; (go_simp <;> with_reducible rfl)
          try simp only [Act.put, List.setIfInBounds_toArray, List.set_cons_zero, List.set_cons_succ]
          refine wpAnyH_take (i := 14) (oi := ⟨some 147, _, _, _, _, _⟩) (v := ?_) rfl (by kernel_rfl) (by kernel_rfl) (by kernel_rfl) (fun _ _ _ h => h) (Or.inl ⟨by rfl, ?_⟩) hS ?_
          rotate_left 1
          · intro w' hB; (obtain ⟨k0, k1, k2, k3⟩ := box4 HX.out hB); have s4 := (Y4.out.below hB rfl).str n4 c4 HE4.out; have s6 := (Y6.out.below hB rfl).str n6 c6 HE6.out; have s0 := (YO.out.below hB rfl).str (B.length + 1) capm (by simp); have sb := (YB.out.below hB rfl).str B.length cap0 rfl; (try have t1 := (F1.out.below hB rfl).str m1 d1 G1.out); (try have t2 := (F2.out.below hB rfl).str m2 d2 G2.out); have hcat := HCAT.out; (go_simp <;> with_reducible rfl)
          try simp only [Act.put, List.setIfInBounds_toArray, List.set_cons_zero, List.set_cons_succ]
          refine wpAnyH_take (i := 15) (oi := ⟨some 148, _, _, _, _, _⟩) (v := ?_) rfl (by kernel_rfl) (by kernel_rfl) (by kernel_rfl) (fun _ _ _ h => h) (Or.inl ⟨by rfl, ?_⟩) hS ?_
          rotate_left 1
          · intro w' hB; (obtain ⟨k0, k1, k2, k3⟩ := box4 HX.out hB); have s4 := (Y4.out.below hB rfl).str n4 c4 HE4.out; have s6 := (Y6.out.below hB rfl).str n6 c6 HE6.out; have s0 := (YO.out.below hB rfl).str (B.length + 1) capm (by simp); have sb := (YB.out.below hB rfl).str B.length cap0 rfl; (try have t1 := (F1.out.below hB rfl).str m1 d1 G1.out); (try have t2 := (F2.out.below hB rfl).str m2 d2 G2.out); have hcat := HCAT.out; (go_simp <;> with_reducible rfl)
          try simp only [Act.put, List.setIfInBounds_toArray, List.set_cons_zero, List.set_cons_succ]
          refine wpAnyH_take (i := 16) (oi := ⟨some 149, _, _, _, _, _⟩) (v := ?_) rfl (by kernel_rfl) (by kernel_rfl) (by kernel_rfl) (fun _ _ _ h => h) (Or.inl ⟨by rfl, ?_⟩) hS ?_
          rotate_left 1
          · intro w' hB; (obtain ⟨k0, k1, k2, k3⟩ := box4 HX.out hB); have s4 := (Y4.out.below hB rfl).str n4 c4 HE4.out; have s6 := (Y6.out.below hB rfl).str n6 c6 HE6.out; have s0 := (YO.out.below hB rfl).str (B.length + 1) capm (by simp); have sb := (YB.out.below hB rfl).str B.length cap0 rfl; (try have t1 := (F1.out.below hB rfl).str m1 d1 G1.out); (try have t2 := (F2.out.below hB rfl).str m2 d2 G2.out); have hcat := HCAT.out; (go_simp <;> with_reducible rfl)
          try simp only [Act.put, List.setIfInBounds_toArray, List.set_cons_zero, List.set_cons_succ]
          refine wpAnyH_take (i := 17) (oi := ⟨some 150, _, _, _, _, _⟩) (v := ?_) rfl (by kernel_rfl) (by kernel_rfl) (by kernel_rfl) (fun _ _ _ h => h) (Or.inl ⟨by rfl, ?_⟩) hS ?_
          rotate_left 1
          · intro w' hB; (obtain ⟨k0, k1, k2, k3⟩ := box4 HX.out hB); have s4 := (Y4.out.below hB rfl).str n4 c4 HE4.out; have s6 := (Y6.out.below hB rfl).str n6 c6 HE6.out; have s0 := (YO.out.below hB rfl).str (B.length + 1) capm (by simp); have sb := (YB.out.below hB rfl).str B.length cap0 rfl; (try have t1 := (F1.out.below hB rfl).str m1 d1 G1.out); (try have t2 := (F2.out.below hB rfl).str m2 d2 G2.out); have hcat := HCAT.out; (go_simp <;> with_reducible rfl)
          try simp only [Act.put, List.setIfInBounds_toArray, List.set_cons_zero, List.set_cons_succ]
          refine wpAnyH_take (i := 18) (oi := ⟨some 151, _, _, _, _, _⟩) (v := ?_) rfl (by kernel_rfl) (by kernel_rfl) (by kernel_rfl) (fun _ _ _ h => h) (Or.inl ⟨by rfl, ?_⟩) hS ?_
          rotate_left 1
          · intro w' hB; (obtain ⟨k0, k1, k2, k3⟩ := box4 HX.out hB); have s4 := (Y4.out.below hB rfl).str n4 c4 HE4.out; have s6 := (Y6.out.below hB rfl).str n6 c6 HE6.out; have s0 := (YO.out.below hB rfl).str (B.length + 1) capm (by simp); have sb := (YB.out.below hB rfl).str B.length cap0 rfl; (try have t1 := (F1.out.below hB rfl).str m1 d1 G1.out); (try have t2 := (F2.out.below hB rfl).str m2 d2 G2.out); have hcat := HCAT.out; (go_simp <;> with_reducible rfl)
          try simp only [Act.put, List.setIfInBounds_toArray, List.set_cons_zero, List.set_cons_succ]
          refine wpAnyH_take (i := 19) (oi := ⟨some 152, _, _, _, _, _⟩) (v := ?_) rfl (by kernel_rfl) (by kernel_rfl) (by kernel_rfl) (fun _ _ _ h => h) (Or.inl ⟨by rfl, ?_⟩) hS ?_
          rotate_left 1
          · intro w' hB; (obtain ⟨k0, k1, k2, k3⟩ := box4 HX.out hB); have s4 := (Y4.out.below hB rfl).str n4 c4 HE4.out; have s6 := (Y6.out.below hB rfl).str n6 c6 HE6.out; have s0 := (YO.out.below hB rfl).str (B.length + 1) capm (by simp); have sb := (YB.out.below hB rfl).str B.length cap0 rfl; (try have t1 := (F1.out.below hB rfl).str m1 d1 G1.out); (try have t2 := (F2.out.below hB rfl).str m2 d2 G2.out); have hcat := HCAT.out; (go_simp <;> with_reducible rfl)
          try simp only [Act.put, List.setIfInBounds_toArray, List.set_cons_zero, List.set_cons_succ]
          refine wpAnyH_take (i := 20) (oi := ⟨some 153, _, _, _, _, _⟩) (v := ?_) rfl (by kernel_rfl) (by kernel_rfl) (by kernel_rfl) (fun _ _ _ h => h) (Or.inl ⟨by rfl, ?_⟩) hS ?_
          rotate_left 1
          · intro w' hB; (obtain ⟨k0, k1, k2, k3⟩ := box4 HX.out hB); have s4 := (Y4.out.below hB rfl).str n4 c4 HE4.out; have s6 := (Y6.out.below hB rfl).str n6 c6 HE6.out; have s0 := (YO.out.below hB rfl).str (B.length + 1) capm (by simp); have sb := (YB.out.below hB rfl).str B.length cap0 rfl; (try have t1 := (F1.out.below hB rfl).str m1 d1 G1.out); (try have t2 := (F2.out.below hB rfl).str m2 d2 G2.out); have hcat := HCAT.out; (go_simp <;> with_reducible rfl)
          try simp only [Act.put, List.setIfInBounds_toArray, List.set_cons_zero, List.set_cons_succ]
          refine wpAnyH_take (i := 21) (oi := ⟨some 154, _, _, _, _, _⟩) (v := ?_) rfl (by kernel_rfl) (by kernel_rfl) (by kernel_rfl) (fun _ _ _ h => h) (Or.inl ⟨by rfl, ?_⟩) hS ?_
          rotate_left 1
          · intro w' hB; (obtain ⟨k0, k1, k2, k3⟩ := box4 HX.out hB); have s4 := (Y4.out.below hB rfl).str n4 c4 HE4.out; have s6 := (Y6.out.below hB rfl).str n6 c6 HE6.out; have s0 := (YO.out.below hB rfl).str (B.length + 1) capm (by simp); have sb := (YB.out.below hB rfl).str B.length cap0 rfl; (try have t1 := (F1.out.below hB rfl).str m1 d1 G1.out); (try have t2 := (F2.out.below hB rfl).str m2 d2 G2.out); have hcat := HCAT.out; (go_simp <;> with_reducible rfl)
          try simp only [Act.put, List.setIfInBounds_toArray, List.set_cons_zero, List.set_cons_succ]
          refine wpAnyH_take (i := 22) (oi := ⟨some 155, _, _, _, _, _⟩) (v := ?_) rfl (by kernel_rfl) (by kernel_rfl) (by kernel_rfl) (fun _ _ _ h => h) (Or.inl ⟨by rfl, ?_⟩) hS ?_
          rotate_left 1
          · intro w' hB; (obtain ⟨k0, k1, k2, k3⟩ := box4 HX.out hB); have s4 := (Y4.out.below hB rfl).str n4 c4 HE4.out; have s6 := (Y6.out.below hB rfl).str n6 c6 HE6.out; have s0 := (YO.out.below hB rfl).str (B.length + 1) capm (by simp); have sb := (YB.out.below hB rfl).str B.length cap0 rfl; (try have t1 := (F1.out.below hB rfl).str m1 d1 G1.out); (try have t2 := (F2.out.below hB rfl).str m2 d2 G2.out); have hcat := HCAT.out; (go_simp <;> with_reducible rfl)
          try simp only [Act.put, List.setIfInBounds_toArray, List.set_cons_zero, List.set_cons_succ]
          refine wpAnyH_take (i := 23) (oi := ⟨some 156, _, _, _, _, _⟩) (v := ?_) rfl (by kernel_rfl) (by kernel_rfl) (by kernel_rfl) (fun _ _ _ h => h) (Or.inl ⟨by rfl, ?_⟩) hS ?_
          rotate_left 1
          · intro w' hB; (obtain ⟨k0, k1, k2, k3⟩ := box4 HX.out hB); have s4 := (Y4.out.below hB rfl).str n4 c4 HE4.out; have s6 := (Y6.out.below hB rfl).str n6 c6 HE6.out; have s0 := (YO.out.below hB rfl).str (B.length + 1) capm (by simp); have sb := (YB.out.below hB rfl).str B.length cap0 rfl; (try have t1 := (F1.out.below hB rfl).str m1 d1 G1.out); (try have t2 := (F2.out.below hB rfl).str m2 d2 G2.out); have hcat := HCAT.out; (go_simp <;> with_reducible rfl)
          try simp only [Act.put, List.setIfInBounds_toArray, List.set_cons_zero, List.set_cons_succ]
          refine wpAnyH_take (i := 24) (oi := ⟨some 157, _, _, _, _, _⟩) (v := ?_) rfl (by kernel_rfl) (by kernel_rfl) (by kernel_rfl) (fun _ _ _ h => h) (Or.inl ⟨by rfl, ?_⟩) hS ?_
          rotate_left 1
          · intro w' hB; (obtain ⟨k0, k1, k2, k3⟩ := box4 HX.out hB); have s4 := (Y4.out.below hB rfl).str n4 c4 HE4.out; have s6 := (Y6.out.below hB rfl).str n6 c6 HE6.out; have s0 := (YO.out.below hB rfl).str (B.length + 1) capm (by simp); have sb := (YB.out.below hB rfl).str B.length cap0 rfl; (try have t1 := (F1.out.below hB rfl).str m1 d1 G1.out); (try have t2 := (F2.out.below hB rfl).str m2 d2 G2.out); have hcat := HCAT.out; (go_simp <;> with_reducible rfl)
          try simp only [Act.put, List.setIfInBounds_toArray, List.set_cons_zero, List.set_cons_succ]
          refine wpAnyH_take (i := 25) (oi := ⟨some 158, _, _, _, _, _⟩) (v := ?_) rfl (by kernel_rfl) (by kernel_rfl) (by kernel_rfl) (fun _ _ _ h => h) (Or.inl ⟨by rfl, ?_⟩) hS ?_
          rotate_left 1
          · intro w' hB; (obtain ⟨k0, k1, k2, k3⟩ := box4 HX.out hB); have s4 := (Y4.out.below hB rfl).str n4 c4 HE4.out; have s6 := (Y6.out.below hB rfl).str n6 c6 HE6.out; have s0 := (YO.out.below hB rfl).str (B.length + 1) capm (by simp); have sb := (YB.out.below hB rfl).str B.length cap0 rfl; (try have t1 := (F1.out.below hB rfl).str m1 d1 G1.out); (try have t2 := (F2.out.below hB rfl).str m2 d2 G2.out); have hcat := HCAT.out; (go_simp <;> with_reducible rfl)
          try simp only [Act.put, List.setIfInBounds_toArray, List.set_cons_zero, List.set_cons_succ]
          refine wpAnyH_ready (rs := [26]) (by kernel_rfl) (by simp) (AllReadyH.cons (o := ⟨some 159, _, _, _, _, _⟩) rfl (fun K hK => ?_) AllReadyH.nil)
          go_simp
          refine (rd_known _).mono ?_
          rintro e p3 ⟨rfl, hb⟩
          refine hK.out _ _ (hS.trans (hb.mono hS.size)) (fun _ => ?_)
          clear hK K
          have hB := hS.trans (hb.mono hS.size)
          refine wpAnyH_now hB ?_
          clear hS
          have hS := Below.refl p3.heap.size p3
          replace HX := Lib.hid (boxStays HX.out hB)
          replace HD := Lib.hid (HD.out.trans (hB.mono HD.out.size))
          replace Y4 := Lib.hid (Y4.out.below hB rfl)
          replace Y6 := Lib.hid (Y6.out.below hB rfl)
          replace YO := Lib.hid (YO.out.below hB rfl)
          replace YB := Lib.hid (YB.out.below hB rfl)
          (replace F1 := Lib.hid (F1.out.below hB rfl))
          (replace F2 := Lib.hid (F2.out.below hB rfl))
          clear hB hb
          try simp only [Act.put, List.setIfInBounds_toArray, List.set_cons_zero, List.set_cons_succ]
          refine wpAnyH_take (i := 27) (oi := ⟨some 160, _, _, _, _, _⟩) (v := ?_) rfl (by kernel_rfl) (by kernel_rfl) (by kernel_rfl) (fun _ _ _ h => h) (Or.inl ⟨by rfl, ?_⟩) hS ?_
          rotate_left 1
          · intro w' hB; (obtain ⟨k0, k1, k2, k3⟩ := box4 HX.out hB); have s4 := (Y4.out.below hB rfl).str n4 c4 HE4.out; have s6 := (Y6.out.below hB rfl).str n6 c6 HE6.out; have s0 := (YO.out.below hB rfl).str (B.length + 1) capm (by simp); have sb := (YB.out.below hB rfl).str B.length cap0 rfl; (try have t1 := (F1.out.below hB rfl).str m1 d1 G1.out); (try have t2 := (F2.out.below hB rfl).str m2 d2 G2.out); have hcat := HCAT.out; (go_simp <;> with_reducible rfl)
          try simp only [Act.put, List.setIfInBounds_toArray, List.set_cons_zero, List.set_cons_succ]
          refine wpAnyH_take (i := 28) (oi := ⟨some 4, _, _, _, _, _⟩) (v := ?_) rfl (by kernel_rfl) (by kernel_rfl) (by kernel_rfl) (fun _ _ _ h => h) (Or.inl ⟨by rfl, ?_⟩) hS ?_
          rotate_left 1
          · intro w' hB; (obtain ⟨k0, k1, k2, k3⟩ := box4 HX.out hB); have s4 := (Y4.out.below hB rfl).str n4 c4 HE4.out; have s6 := (Y6.out.below hB rfl).str n6 c6 HE6.out; have s0 := (YO.out.below hB rfl).str (B.length + 1) capm (by simp); have sb := (YB.out.below hB rfl).str B.length cap0 rfl; (try have t1 := (F1.out.below hB rfl).str m1 d1 G1.out); (try have t2 := (F2.out.below hB rfl).str m2 d2 G2.out); have hcat := HCAT.out; (go_simp <;> with_reducible rfl)
          try simp only [Act.put, List.setIfInBounds_toArray, List.set_cons_zero, List.set_cons_succ]
          refine wpAnyH_done (by kernel_rfl) (NoPanic.normal ?_) _
          clear hS
          go_wp2_with fail
          go_ret
          exact ⟨rfl, HD.out⟩
end Go.Proofs.Ytbgnkdbbkkoinaa
