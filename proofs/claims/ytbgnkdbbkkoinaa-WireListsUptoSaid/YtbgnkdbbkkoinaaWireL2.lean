/- Walks: a pair's form, a list's form. -/
import Derived.Test.YtbgnkdbbkkoinaaWireL1
import Derived.Test.YtbgnkdbbkkoinaaPairs2
import Derived.Test.YtbgnkdbbkkoinaaFn
namespace Go.Proofs.Ytbgnkdbbkkoinaa
open Go.RowKit Wire
theorem ref2 {W w' : World} {g : Nat} {t : TypeId} {fr : Nat × Nat} {x0 x1 : Value} (h : W.heap[g]? = some (.cells #[x0, x1] t fr)) (hB : Below W.heap.size W w') : w'.cell? ⟨g, 0, none⟩ = some x0 ∧ w'.cell? ⟨g, 1, none⟩ = some x1 :=
  box2 (boxStays h hB)
set_option maxHeartbeats 400000 in
theorem form_ok (x y : Int) (a b : Nat) (w : World) (hx : x = a) (hy : y = b) (ha : a < 18446744073709551616) (hb : b < 18446744073709551616) :
    Calls Try.prog 28 #[.agg #[.int .u64 x, .int .u64 y]] w (GivesB w (enc a ++ enc b)) := by
  subst hx hy
  have BT := Lib.hid byteT
  have hEA := enc_length a
  have hEB := enc_length b
  go_enter Try.func28, Try.ntmps28
  have D0 := below_new w (.cells #[.int .u64 (a : Int), .int .u64 (b : Int)] 51)
  have HX := Lib.hid (heap_alloc_new w (.cells #[.int .u64 (a : Int), .int .u64 (b : Int)] 51))
  go_wp2_with fail
  generalize w.alloc (.cells #[.int .u64 (a : Int), .int .u64 (b : Int)] 51) = w0 at *
  have HC : Hid (Chain [w0, w] w0) := Lib.hid ((Chain.one w).push D0)
  have HZ0 : Hid (w.heap.size ≤ w0.heap.size) := Lib.hid D0.size
  clear D0
  refine wp_region_noPanic ?_
  refine wp_region_held_drew (S := fun w' => Below w0.heap.size w0 w') (by kernel_rfl) (Below.refl _ _).drew (fun hS => ?_)
  refine wpAnyH_take (i := 0) (oi := ⟨some 3, _, _, _, _, _⟩) (v := ?_) rfl (by kernel_rfl) (by kernel_rfl) (by kernel_rfl) (fun _ _ _ h => h) (Or.inl ⟨by rfl, ?_⟩) hS ?_
  rotate_left 1
  · intro w' hB; obtain ⟨k0, k1⟩ := ref2 HX.out hB; (go_simp <;> with_reducible rfl)
  try simp only [Act.put, List.setIfInBounds_toArray, List.set_cons_zero, List.set_cons_succ]
  refine wpAnyH_take (i := 1) (oi := ⟨some 4, _, _, _, _, _⟩) (v := ?_) rfl (by kernel_rfl) (by kernel_rfl) (by kernel_rfl) (fun _ _ _ h => h) (Or.inl ⟨by rfl, ?_⟩) hS ?_
  rotate_left 1
  · intro w' hB; obtain ⟨k0, k1⟩ := ref2 HX.out hB; (go_simp <;> with_reducible rfl)
  try simp only [Act.put, List.setIfInBounds_toArray, List.set_cons_zero, List.set_cons_succ]
  refine wpAnyH_take (i := 3) (oi := ⟨some 6, _, _, _, _, _⟩) (v := ?_) rfl (by kernel_rfl) (by kernel_rfl) (by kernel_rfl) (fun _ _ _ h => h) (Or.inl ⟨by rfl, ?_⟩) hS ?_
  rotate_left 1
  · intro w' hB; obtain ⟨k0, k1⟩ := ref2 HX.out hB; (go_simp <;> with_reducible rfl)
  try simp only [Act.put, List.setIfInBounds_toArray, List.set_cons_zero, List.set_cons_succ]
  refine wpAnyH_take (i := 4) (oi := ⟨some 7, _, _, _, _, _⟩) (v := ?_) rfl (by kernel_rfl) (by kernel_rfl) (by kernel_rfl) (fun _ _ _ h => h) (Or.inl ⟨by rfl, ?_⟩) hS ?_
  rotate_left 1
  · intro w' hB; obtain ⟨k0, k1⟩ := ref2 HX.out hB; (go_simp <;> with_reducible rfl)
  try simp only [Act.put, List.setIfInBounds_toArray, List.set_cons_zero, List.set_cons_succ]
  refine wpAnyH_ready (rs := [2]) (by kernel_rfl) (by simp) (AllReadyH.cons (o := ⟨some 5, _, _, _, _, _⟩) rfl (fun K hK => ?_) AllReadyH.nil)
  go_simp
  refine (wire_Number _ a _ rfl ha).mono ?_
  rintro e w1 ⟨v1, rfl, ho, hb⟩
  refine hK.out _ _ (hS.trans (hb.mono hS.size)) (fun _ => ?_)
  clear hK K
  replace hS := hS.trans (hb.mono hS.size)
  have H1 : Hid (w1.ownsRow w0.heap.size 5 1 v1 (enc a).length (bvs (enc a))) := Lib.hid (own_mono ho (by simp))
  clear ho
  clear hb
  try simp only [Act.put, List.setIfInBounds_toArray, List.set_cons_zero, List.set_cons_succ]
  refine wpAnyH_ready (rs := [5]) (by kernel_rfl) (by simp) (AllReadyH.cons (o := ⟨some 8, _, _, _, _, _⟩) rfl (fun K hK => ?_) AllReadyH.nil)
  go_simp
  refine (wire_Number _ b _ rfl hb).mono ?_
  rintro e w2 ⟨v2, rfl, ho, hb⟩
  refine hK.out _ _ (hS.trans (hb.mono hS.size)) (fun _ => ?_)
  clear hK K
  replace hS := hS.trans (hb.mono hS.size)
  obtain ⟨a2, c2, rfl, h2⟩ := own_bytesAt ho
  have H2 := Lib.hid (h2.src Try.underlying23 c2)
  replace H1 := Lib.hid (own_later H1.out hb (Nat.le_refl _))
  clear ho h2
  clear hb
  try simp only [Act.put, List.setIfInBounds_toArray, List.set_cons_zero, List.set_cons_succ]
  refine wpAnyH_ready (rs := [6]) (by kernel_rfl) (by simp) (AllReadyH.cons (o := ⟨some 9, _, _, _, _, _⟩) rfl (fun K hK => ?_) AllReadyH.nil)
  refine step_appb rfl _ _ _ _ rfl w0.heap.size 5 BT.out v1 (enc a) rfl H1.out (.slice a2 (enc b).length c2) (enc b) rfl H2.out (by omega) hS.size ?_
  intro v3 w3 hown hgr hb _
  refine hK.out _ _ (hS.trans hb) (fun _ => ?_)
  clear hK K
  replace hS := hS.trans hb
  have H3 := Lib.hid hown
  clear hown
  clear hb hgr
  try simp only [Act.put, List.setIfInBounds_toArray, List.set_cons_zero, List.set_cons_succ]
  refine wpAnyH_take (i := 7) (oi := ⟨some 2, _, _, _, _, _⟩) (v := ?_) rfl (by kernel_rfl) (by kernel_rfl) (by kernel_rfl) (fun _ _ _ h => h) (Or.inl ⟨by rfl, ?_⟩) hS ?_
  rotate_left 1
  · intro w' hB; obtain ⟨k0, k1⟩ := ref2 HX.out hB; (go_simp <;> with_reducible rfl)
  try simp only [Act.put, List.setIfInBounds_toArray, List.set_cons_zero, List.set_cons_succ]
  refine wpAnyH_done (by kernel_rfl) (NoPanic.normal ?_) _
  have HD := Lib.hid (HC.out.to w (by simp) |>.trans (hS.mono HZ0.out))
  clear hS
  go_wp2_with fail
  go_ret
  exact ⟨_, rfl, by rw [List.length_append, ← List.length_append]; exact own_mono H3.out HZ0.out, HD.out⟩
end Go.Proofs.Ytbgnkdbbkkoinaa

