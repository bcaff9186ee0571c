/- Words, contracts and walks that the proof stands on (KyT PmW1S PmW2S). -/
import Derived.Test.YtjlliohjeiclaaaGreatDoorKF1
import Derived.Test.YtjlliohjeiclaaaGreatDoorKF4
import Derived.Test.YtjlliohjeiclaaaGreatDoorKF6
import Derived.Test.YtjlliohjeiclaaaGreatDoorKF8
namespace Go.Proofs.YtjlliohjeiclaaaGreatDoor
open Go.RowKit St
set_option maxRecDepth 100000 in
set_option maxHeartbeats 2000000 in
theorem ref9_SameTexts (l m : List ByteArray) (a b : Option Addr) (n1 n2 c1 c2 : Nat) (w : World) (hl : CellsAt w a (txV l)) (hm : CellsAt w b (txV m)) (hn1 : n1 = l.length) (hn2 : n2 = m.length) (hb : n1 ≤ 9223372036854775807) :
 Calls Tryz.prog 43 #[.slice a n1 c1, .slice b n2 c2] w fun e w' => e = .returned (.bool (decide (l = m))) ∧ Below w.heap.size w w' := by
 have HL := Lib.hid hl
 have HM := Lib.hid hm
 clear hl hm
 go_enter Tryz.func43, Tryz.ntmps43
 by_cases hlen : n1 = n2
 · subst hlen
   have hN : Hid (l.length = m.length) := Lib.hid (by omega)
   have E : Hid (l.take n1 = m.take n1 → decide (l = m) = true) := Lib.hid (fun h => eq_all hN.out (by rw [← hn1]; exact h))
   have F : Hid (∀ k (h1 : k < l.length) (h2 : k < m.length), l[k] ≠ m[k] → decide (l = m) = false) := Lib.hid (fun k h1 h2 h => ne_at h1 h2 h)
   generalize decide (l = m) = res at *
   go_wp2_with fail
   go_loopw [5] (fun i wr => ∃ k : Nat, k ≤ n1 ∧ i = .int .i64 (k : Int) ∧ Hid (l.take k = m.take k) ∧ Hid (Below w.heap.size w wr)) (fun i _ => n1 - (intOf i).toNat)
   case atStart => exact ⟨0, Nat.zero_le _, rfl, Lib.hid rfl, Lib.hid (Below.refl _ _)⟩
   case round =>
    obtain ⟨k, hk, rfl, HT, HB⟩ := hrel
    by_cases hlt : k < n1
    · have hk1 : k < l.length := by omega
      have hk2 : k < m.length := by omega
      obtain ⟨ba, oa, rfl, ca⟩ := tx_get (HL.out.below HB.out rfl) k hk1
      obtain ⟨bb, ob, rfl, cb⟩ := tx_get (HM.out.below HB.out rfl) k hk2
      have G1 : Hid (l[k] ≠ m[k] → res = false) := Lib.hid (F.out k hk1 hk2)
      have G2 : Hid (l[k] = m[k] → l.take (k + 1) = m.take (k + 1)) := Lib.hid (take_eq hk1 hk2 HT.out)
      generalize l[k] = x at *
      generalize m[k] = y at *
      have hki : (k : Int) < (n1 : Int) := by omega
      by_cases hxy : x = y
      · have H := Lib.hid (G2.out hxy)
        have hd : (x.toList == y.toList) = true := by rw [Pm.eq_iff]; simpa using hxy
        clear hxy
        go_wp2_with fail
        go_quiet (fail)
        go_wp2_with fail
        refine ⟨⟨k + 1, by omega, by go_num, H, Lib.hid (below_drews HB.out _)⟩, by simp [intOf]; omega⟩
      · have hr := Lib.hid (G1.out hxy)
        have hd : (x.toList == y.toList) = false := by rw [Pm.eq_iff]; simpa using hxy
        clear hxy
        go_wp2_with fail
        go_quiet (fail)
        go_wp2_with fail
        go_ret
        rw [hr.out]
        exact ⟨rfl, below_drews HB.out _⟩
    · obtain rfl : k = n1 := by omega
      have hr := Lib.hid (E.out HT.out)
      go_wp2_with fail
      go_ret
      rw [hr.out]
      exact ⟨rfl, HB.out⟩
 · have hr : Hid (decide (l = m) = false) := Lib.hid (by rw [decide_eq_false_iff_not]; rintro rfl; omega)
   have hne : ((n1 : Int) == (n2 : Int)) = false := by simp; omega
   have hne' : ¬ (n1 : Int) = (n2 : Int) := by omega
   generalize decide (l = m) = res at *
   go_wp2_with fail
   go_ret
   rw [hr.out]
   exact ⟨rfl, Below.refl _ _⟩
end Go.Proofs.YtjlliohjeiclaaaGreatDoor
namespace Go.Proofs.YtjlliohjeiclaaaGreatDoor
open Go.RowKit Pm
def AtS (w : World) : Tr ByteArray → Prop
 | .nil => True
 | .node b l k v r => w.heap[b]? = some (.cells #[.pointer (pa l), .pointer (pa r), .string k, .string v, .int .i64 (ht (.node b l k v r) : Int), .int .i64 (sz (.node b l k v r) : Int)] 111 (0, 0)) ∧ AtS w l ∧ AtS w r
theorem AtS.keep {w w' : World} {t : Tr ByteArray} (h : AtS w t) (hk : ∀ b o, w.heap[b]? = some o → b ∈ blocks t → w'.heap[b]? = some o) : AtS w' t := by
 induction t with
 | nil => trivial
 | node b l k v r ih1 ih2 =>
  obtain ⟨h1, h2, h3⟩ := h
  exact ⟨hk _ _ h1 (by simp [blocks]), ih1 h2 (fun b o hb hm => hk b o hb (by simp [blocks, hm])), ih2 h3 (fun b o hb hm => hk b o hb (by simp [blocks, hm]))⟩
theorem AtS.below {w w' : World} {t : Tr ByteArray} {B : Nat} (h : AtS w t) (hb : Below B w w') (hB : B = w.heap.size) : AtS w' t :=
 h.keep fun b o ho _ => (hb.block b (by rw [hB]; exact (Array.getElem?_eq_some_iff.1 ho).1)).trans ho
theorem AtS.lt {w : World} {t : Tr ByteArray} (h : AtS w t) : ∀ b ∈ blocks t, b < w.heap.size := by
 induction t with
 | nil => intro b hb; simp [blocks] at hb
 | node b l k v r ih1 ih2 =>
  obtain ⟨h1, h2, h3⟩ := h
  intro b' hb
  simp only [blocks, List.mem_append, List.mem_cons] at hb
  rcases hb with hb | rfl | hb
  · exact ih1 h2 b' hb
  · exact (Array.getElem?_eq_some_iff.1 h1).1
  · exact ih2 h3 b' hb
theorem AtS.cells {w : World} {b : Nat} {l r : Tr ByteArray} {k : ByteArray} {v : ByteArray} (h : AtS w (.node b l k v r)) :
 w.cell? ⟨b, 0, none⟩ = some (.pointer (pa l)) ∧ w.cell? ⟨b, 1, none⟩ = some (.pointer (pa r)) ∧ w.cell? ⟨b, 2, none⟩ = some (.string k) ∧ w.cell? ⟨b, 3, none⟩ = some (.string v) ∧
 w.cell? ⟨b, 4, none⟩ = some (.int .i64 (ht (.node b l k v r) : Int)) ∧ w.cell? ⟨b, 5, none⟩ = some (.int .i64 (sz (.node b l k v r) : Int)) :=
 ⟨cell_of_row _ _ _ _ _ _ h.1, cell_of_row _ _ _ _ _ _ h.1, cell_of_row _ _ _ _ _ _ h.1, cell_of_row _ _ _ _ _ _ h.1, cell_of_row _ _ _ _ _ _ h.1, cell_of_row _ _ _ _ _ _ h.1⟩
theorem AtS.cellsP {w : World} {b : Nat} {l r : Tr ByteArray} {k : ByteArray} {v : ByteArray} (pl pr : Option Addr) (h : AtS w (.node b l k v r)) (e1 : pa l = pl) (e2 : pa r = pr) :
 w.cell? ⟨b, 0, none⟩ = some (.pointer pl) ∧ w.cell? ⟨b, 1, none⟩ = some (.pointer pr) ∧ w.cell? ⟨b, 2, none⟩ = some (.string k) ∧ w.cell? ⟨b, 3, none⟩ = some (.string v) := by
 subst e1 e2
 obtain ⟨x0, x1, x2, x3, _⟩ := h.cells
 exact ⟨x0, x1, x2, x3⟩
theorem AtS.other {w : World} {t : Tr ByteArray} (h : AtS w t) {X : Nat} {cs : Array Value} {T : TypeId} {fr : Nat × Nat} (hx : w.heap[X]? = some (.cells cs T fr)) (hT : T ≠ 111) : X ∉ blocks t := by
 induction t with
 | nil => simp [blocks]
 | node b l k v r ih1 ih2 =>
  obtain ⟨h1, h2, h3⟩ := h
  simp only [blocks, List.mem_append, List.mem_cons]
  rintro (hm | rfl | hm)
  · exact ih1 h2 hm
  · rw [hx] at h1; cases h1; exact hT rfl
  · exact ih2 h3 hm
theorem AtS.setBox {w : World} {t : Tr ByteArray} (h : AtS w t) {X : Nat} {cs : Array Value} {T : TypeId} {fr : Nat × Nat} (hx : w.heap[X]? = some (.cells cs T fr)) (hT : T ≠ 111) (i : Nat) (u : Value) : AtS (w.setCell ⟨X, i, none⟩ u) t :=
 h.keep fun b o ho hm => (Below.heap_setCell _ _ _ _ (by intro e; have e2 : b = X := e; subst e2; exact h.other hx hT hm)).trans ho
def keyOr : Tr ByteArray → ByteArray
 | .nil => ⟨#[]⟩
 | .node _ _ k _ _ => k
def valOr : Tr ByteArray → ByteArray
 | .nil => (⟨#[]⟩ : ByteArray)
 | .node _ _ _ v _ => v
theorem pm_HeightS (t : Tr ByteArray) (w : World) (h : AtS w t) : Calls Tryz.prog 136 #[.pointer (pa t)] w fun e w' => e = .returned (.int .i64 (ht t : Int)) ∧ w = w' := by
 cases t with
 | nil =>
  show Calls Tryz.prog 136 #[.pointer none] w fun e w' => e = .returned (.int .i64 0) ∧ w = w'
  go_enter Tryz.func136, Tryz.ntmps136
  go_wp2_with fail
  go_ret
  exact ⟨rfl, rfl⟩
 | node b l k v r =>
  show Calls Tryz.prog 136 #[.pointer (some ⟨b, 0, none⟩)] w fun e w' => e = .returned (.int .i64 (ht (.node b l k v r) : Int)) ∧ w = w'
  obtain ⟨c0, c1, c2, c3, c4, c5⟩ := h.cells
  clear h
  go_enter Tryz.func136, Tryz.ntmps136
  go_wp2_with fail
  go_ret
  exact ⟨rfl, rfl⟩
theorem pm_LenS (t : Tr ByteArray) (w : World) (h : AtS w t) : Calls Tryz.prog 50 #[.pointer (pa t)] w fun e w' => e = .returned (.int .i64 (sz t : Int)) ∧ w = w' := by
 cases t with
 | nil =>
  show Calls Tryz.prog 50 #[.pointer none] w fun e w' => e = .returned (.int .i64 0) ∧ w = w'
  go_enter Tryz.func50, Tryz.ntmps50
  go_wp2_with fail
  go_ret
  exact ⟨rfl, rfl⟩
 | node b l k v r =>
  show Calls Tryz.prog 50 #[.pointer (some ⟨b, 0, none⟩)] w fun e w' => e = .returned (.int .i64 (sz (.node b l k v r) : Int)) ∧ w = w'
  obtain ⟨c0, c1, c2, c3, c4, c5⟩ := h.cells
  clear h
  go_enter Tryz.func50, Tryz.ntmps50
  go_wp2_with fail
  go_ret
  exact ⟨rfl, rfl⟩
theorem pm_ValueS (t : Tr ByteArray) (w : World) (h : AtS w t) : Calls Tryz.prog 57 #[.pointer (pa t)] w fun e w' => e = .returned (.string (valOr t)) ∧ w = w' := by
 cases t with
 | nil =>
  show Calls Tryz.prog 57 #[.pointer none] w fun e w' => e = .returned (.string (⟨#[]⟩ : ByteArray)) ∧ w = w'
  go_enter Tryz.func57, Tryz.ntmps57
  go_wp2_with fail
  go_ret
  exact ⟨rfl, rfl⟩
 | node b l k v r =>
  show Calls Tryz.prog 57 #[.pointer (some ⟨b, 0, none⟩)] w fun e w' => e = .returned (.string v) ∧ w = w'
  obtain ⟨c0, c1, c2, c3, c4, c5⟩ := h.cells
  clear h
  go_enter Tryz.func57, Tryz.ntmps57
  go_wp2_with fail
  go_ret
  exact ⟨rfl, rfl⟩
theorem pm_nodeS (N : Nat) (l r : Tr ByteArray) (k : ByteArray) (v : ByteArray) (w : World) (hN : N ≤ w.heap.size) (hl : AtS w l) (hr : AtS w r) (hs : sz l + sz r + 1 ≤ 1099511627776) :
 Calls Tryz.prog 99 #[.pointer (pa l), .string k, .string v, .pointer (pa r)] w fun e w' =>
  ∃ b, N ≤ b ∧ e = .returned (.pointer (pa (Tr.node b l k v r))) ∧ AtS w' (.node b l k v r) ∧ Below w.heap.size w w' := by
 have hh1 := ht_le l
 have hh2 := ht_le r
 have HL := Lib.hid hl
 have HR := Lib.hid hr
 clear hl hr
 obtain ⟨n1, hn1⟩ : ∃ n, ht l = n := ⟨_, rfl⟩
 obtain ⟨n2, hn2⟩ : ∃ n, ht r = n := ⟨_, rfl⟩
 obtain ⟨m1, hm1⟩ : ∃ n, sz l = n := ⟨_, rfl⟩
 obtain ⟨m2, hm2⟩ : ∃ n, sz r = n := ⟨_, rfl⟩
 have HN : Hid (ht l = n1 ∧ ht r = n2 ∧ sz l = m1 ∧ sz r = m2) := Lib.hid ⟨hn1, hn2, hm1, hm2⟩
 rw [hn1, hm1] at hh1
 rw [hn2, hm2] at hh2
 rw [hm1, hm2] at hs
 clear hn1 hn2 hm1 hm2
 obtain ⟨mx, hmx⟩ : ∃ mx : Nat, mx = max n1 n2 := ⟨_, rfl⟩
 have hmi : (max (n1 : Int) (n2 : Int)) = (mx : Int) := by omega
 have hmb : mx ≤ 1099511627776 := by omega
 have HM := Lib.hid hmx
 clear hmx
 go_enter Tryz.func99, Tryz.ntmps99
 go_wp2_with fail
 refine (pm_HeightS l w HL.out).mono ?_
 rintro e w' ⟨rfl, rfl⟩
 rw [HN.out.1]
 go_wp2_with fail
 refine (pm_HeightS r w HR.out).mono ?_
 rintro e w' ⟨rfl, rfl⟩
 rw [HN.out.2.1]
 go_wp2_with fail
 refine (pm_LenS l w HL.out).mono ?_
 rintro e w' ⟨rfl, rfl⟩
 rw [HN.out.2.2.1]
 go_wp2_with fail
 refine (pm_LenS r w HR.out).mono ?_
 rintro e w' ⟨rfl, rfl⟩
 rw [HN.out.2.2.2]
 go_wp2_with fail
 go_ret
 refine ⟨w.heap.size, hN, rfl, ⟨?_, HL.out.below (below_new w _) rfl, HR.out.below (below_new w _) rfl⟩, below_new w _⟩
 rw [heap_alloc_new]
 simp only [ht, sz, HN.out.1, HN.out.2.1, HN.out.2.2.1, HN.out.2.2.2, ← HM.out]
 rfl
end Go.Proofs.YtjlliohjeiclaaaGreatDoor
namespace Go.Proofs.YtjlliohjeiclaaaGreatDoor
open Go.RowKit Pm
theorem AtS.chain {w W w' : World} {ws : List World} {t : Tr ByteArray} (h : AtS w t) (hc : Chain ws W) (hS : Below W.heap.size W w') (hm : w ∈ ws) : AtS w' t :=
 h.below ((hc.to w hm).trans (hS.mono (hc.to w hm).size)) rfl
theorem Chain.le {ws : List World} {W w w' : World} (hc : Chain ws W) (hS : Below W.heap.size W w') (hm : w ∈ ws) : w.heap.size ≤ w'.heap.size := Nat.le_trans (hc.to w hm).size hS.size
set_option maxRecDepth 100000 in
set_option maxHeartbeats 4000000 in
theorem pm_balancedS (N : Nat) (l r : Tr ByteArray) (k : ByteArray) (v : ByteArray) (w : World) (hN : N ≤ w.heap.size) (hl : AtS w l) (hr : AtS w r) (hs : sz l + sz r + 1 ≤ 1099511627776) :
 Calls Tryz.prog 100 #[.pointer (pa l), .string k, .string v, .pointer (pa r)] w fun e w' =>
  ∃ t', BalR N l k v r t' ∧ e = .returned (.pointer (pa t')) ∧ AtS w' t' ∧ Below w.heap.size w w' := by
 have hh1 := ht_le l
 have hh2 := ht_le r
 have HL := Lib.hid hl
 have HR := Lib.hid hr
 have HZ := Lib.hid hs
 clear hl hr
 have HC : Hid (Chain [w] w) := Lib.hid (Chain.one w)
 by_cases h1 : ht r + 1 < ht l
 · obtain ⟨bl, ll, lk, lv, lr, rfl⟩ := ht_pos (t := l) (by omega)
   have hi1 : ((ht r : Int) + 1) < (ht (.node bl ll lk lv lr) : Int) := by omega
   have hk1 := ht_le ll
   have hk2 := ht_le lr
   by_cases h2 : ht ll < ht lr
   · obtain ⟨bm, ml, mk, mv, mr, rfl⟩ := ht_pos (t := lr) (by omega)
     have hi2 : (ht ll : Int) < (ht (.node bm ml mk mv mr) : Int) := by omega
     obtain ⟨x0, x1, x2, x3⟩ := HL.out.cellsP (pa ll) (some ⟨bm, 0, none⟩) rfl rfl
     change Calls _ _ #[.pointer (some ⟨bl, 0, none⟩), .string k, .string v, .pointer (pa r)] w _
     go_enter Tryz.func100, Tryz.ntmps100
     go_wp2_with fail
     refine (pm_HeightS (.node bl ll lk lv (.node bm ml mk mv mr)) _ HL.out).mono ?_
     rintro e w' ⟨rfl, rfl⟩
     go_wp2_with fail
     refine (pm_HeightS r _ HR.out).mono ?_
     rintro e w' ⟨rfl, rfl⟩
     go_wp2_with fail
     refine (pm_HeightS ll _ HL.out.2.1).mono ?_
     rintro e w' ⟨rfl, rfl⟩
     go_wp2_with fail
     refine (pm_HeightS (.node bm ml mk mv mr) _ HL.out.2.2).mono ?_
     rintro e w' ⟨rfl, rfl⟩
     go_wp2_with fail
     clear x0 x1 x2 x3
     refine wp_region_noPanic ?_
     refine wp_region_held_drew (S := fun w' => Below w.heap.size w w') (by kernel_rfl) (Below.refl _ _).drew (fun hS => ?_)
     refine tk (i := 0) (oi := ⟨some 30, _, _, _, _, _⟩) (v := ?_) rfl (Or.inl ⟨by rfl, ?_⟩) hS ?_
     rotate_left 1
     · intro w' hB; (go_simp <;> with_reducible rfl)
     try simp only [Act.put, zA, zB, zC]
     refine tk (i := 1) (oi := ⟨some 31, _, _, _, _, _⟩) (v := ?_) rfl (Or.inl ⟨by rfl, ?_⟩) hS ?_
     rotate_left 1
     · intro w' hB; have hd := (HC.out.to w (by simp)).trans (hB.mono (HC.out.to w (by simp)).size); obtain ⟨x0, x1, x2, x3⟩ := (HL.out.below hd rfl).cellsP (pa ll) (some ⟨bm, 0, none⟩) rfl rfl; obtain ⟨y0, y1, y2, y3⟩ := (HL.out.2.2.below hd rfl).cellsP (pa ml) (pa mr) rfl rfl; clear hd; (go_simp <;> with_reducible rfl)
     try simp only [Act.put, zA, zB, zC]
     refine tk (i := 2) (oi := ⟨some 32, _, _, _, _, _⟩) (v := ?_) rfl (Or.inl ⟨by rfl, ?_⟩) hS ?_
     rotate_left 1
     · intro w' hB; (go_simp <;> with_reducible rfl)
     try simp only [Act.put, zA, zB, zC]
     refine tk (i := 3) (oi := ⟨some 33, _, _, _, _, _⟩) (v := ?_) rfl (Or.inl ⟨by rfl, ?_⟩) hS ?_
     rotate_left 1
     · intro w' hB; have hd := (HC.out.to w (by simp)).trans (hB.mono (HC.out.to w (by simp)).size); obtain ⟨x0, x1, x2, x3⟩ := (HL.out.below hd rfl).cellsP (pa ll) (some ⟨bm, 0, none⟩) rfl rfl; obtain ⟨y0, y1, y2, y3⟩ := (HL.out.2.2.below hd rfl).cellsP (pa ml) (pa mr) rfl rfl; clear hd; (go_simp <;> with_reducible rfl)
     try simp only [Act.put, zA, zB, zC]
     refine tk (i := 4) (oi := ⟨some 34, _, _, _, _, _⟩) (v := ?_) rfl (Or.inl ⟨by rfl, ?_⟩) hS ?_
     rotate_left 1
     · intro w' hB; (go_simp <;> with_reducible rfl)
     try simp only [Act.put, zA, zB, zC]
     refine tk (i := 5) (oi := ⟨some 35, _, _, _, _, _⟩) (v := ?_) rfl (Or.inl ⟨by rfl, ?_⟩) hS ?_
     rotate_left 1
     · intro w' hB; have hd := (HC.out.to w (by simp)).trans (hB.mono (HC.out.to w (by simp)).size); obtain ⟨x0, x1, x2, x3⟩ := (HL.out.below hd rfl).cellsP (pa ll) (some ⟨bm, 0, none⟩) rfl rfl; obtain ⟨y0, y1, y2, y3⟩ := (HL.out.2.2.below hd rfl).cellsP (pa ml) (pa mr) rfl rfl; clear hd; (go_simp <;> with_reducible rfl)
     try simp only [Act.put, zA, zB, zC]
     refine tk (i := 6) (oi := ⟨some 36, _, _, _, _, _⟩) (v := ?_) rfl (Or.inl ⟨by rfl, ?_⟩) hS ?_
     rotate_left 1
     · intro w' hB; (go_simp <;> with_reducible rfl)
     try simp only [Act.put, zA, zB, zC]
     refine tk (i := 7) (oi := ⟨some 37, _, _, _, _, _⟩) (v := ?_) rfl (Or.inl ⟨by rfl, ?_⟩) hS ?_
     rotate_left 1
     · intro w' hB; have hd := (HC.out.to w (by simp)).trans (hB.mono (HC.out.to w (by simp)).size); obtain ⟨x0, x1, x2, x3⟩ := (HL.out.below hd rfl).cellsP (pa ll) (some ⟨bm, 0, none⟩) rfl rfl; obtain ⟨y0, y1, y2, y3⟩ := (HL.out.2.2.below hd rfl).cellsP (pa ml) (pa mr) rfl rfl; clear hd; (go_simp <;> with_reducible rfl)
     try simp only [Act.put, zA, zB, zC]
     refine tk (i := 8) (oi := ⟨some 38, _, _, _, _, _⟩) (v := ?_) rfl (Or.inl ⟨by rfl, ?_⟩) hS ?_
     rotate_left 1
     · intro w' hB; (go_simp <;> with_reducible rfl)
     try simp only [Act.put, zA, zB, zC]
     refine tk (i := 9) (oi := ⟨some 39, _, _, _, _, _⟩) (v := ?_) rfl (Or.inl ⟨by rfl, ?_⟩) hS ?_
     rotate_left 1
     · intro w' hB; have hd := (HC.out.to w (by simp)).trans (hB.mono (HC.out.to w (by simp)).size); obtain ⟨x0, x1, x2, x3⟩ := (HL.out.below hd rfl).cellsP (pa ll) (some ⟨bm, 0, none⟩) rfl rfl; obtain ⟨y0, y1, y2, y3⟩ := (HL.out.2.2.below hd rfl).cellsP (pa ml) (pa mr) rfl rfl; clear hd; (go_simp <;> with_reducible rfl)
     try simp only [Act.put, zA, zB, zC]
     refine tk (i := 10) (oi := ⟨some 40, _, _, _, _, _⟩) (v := ?_) rfl (Or.inl ⟨by rfl, ?_⟩) hS ?_
     rotate_left 1
     · intro w' hB; (go_simp <;> with_reducible rfl)
     try simp only [Act.put, zA, zB, zC]
     refine tk (i := 11) (oi := ⟨some 41, _, _, _, _, _⟩) (v := ?_) rfl (Or.inl ⟨by rfl, ?_⟩) hS ?_
     rotate_left 1
     · intro w' hB; have hd := (HC.out.to w (by simp)).trans (hB.mono (HC.out.to w (by simp)).size); obtain ⟨x0, x1, x2, x3⟩ := (HL.out.below hd rfl).cellsP (pa ll) (some ⟨bm, 0, none⟩) rfl rfl; obtain ⟨y0, y1, y2, y3⟩ := (HL.out.2.2.below hd rfl).cellsP (pa ml) (pa mr) rfl rfl; clear hd; (go_simp <;> with_reducible rfl)
     try simp only [Act.put, zA, zB, zC]
     refine tk (i := 12) (oi := ⟨some 42, _, _, _, _, _⟩) (v := ?_) rfl (Or.inl ⟨by rfl, ?_⟩) hS ?_
     rotate_left 1
     · intro w' hB; (go_simp <;> with_reducible rfl)
     try simp only [Act.put, zA, zB, zC]
     refine tk (i := 13) (oi := ⟨some 43, _, _, _, _, _⟩) (v := ?_) rfl (Or.inl ⟨by rfl, ?_⟩) hS ?_
     rotate_left 1
     · intro w' hB; have hd := (HC.out.to w (by simp)).trans (hB.mono (HC.out.to w (by simp)).size); obtain ⟨x0, x1, x2, x3⟩ := (HL.out.below hd rfl).cellsP (pa ll) (some ⟨bm, 0, none⟩) rfl rfl; obtain ⟨y0, y1, y2, y3⟩ := (HL.out.2.2.below hd rfl).cellsP (pa ml) (pa mr) rfl rfl; clear hd; (go_simp <;> with_reducible rfl)
     try simp only [Act.put, zA, zB, zC]
     refine tk (i := 14) (oi := ⟨some 44, _, _, _, _, _⟩) (v := ?_) rfl (Or.inl ⟨by rfl, ?_⟩) hS ?_
     rotate_left 1
     · intro w' hB; (go_simp <;> with_reducible rfl)
     try simp only [Act.put, zA, zB, zC]
     refine tk (i := 15) (oi := ⟨some 45, _, _, _, _, _⟩) (v := ?_) rfl (Or.inl ⟨by rfl, ?_⟩) hS ?_
     rotate_left 1
     · intro w' hB; have hd := (HC.out.to w (by simp)).trans (hB.mono (HC.out.to w (by simp)).size); obtain ⟨x0, x1, x2, x3⟩ := (HL.out.below hd rfl).cellsP (pa ll) (some ⟨bm, 0, none⟩) rfl rfl; obtain ⟨y0, y1, y2, y3⟩ := (HL.out.2.2.below hd rfl).cellsP (pa ml) (pa mr) rfl rfl; clear hd; (go_simp <;> with_reducible rfl)
     try simp only [Act.put, zA, zB, zC]
     refine tk (i := 17) (oi := ⟨some 47, _, _, _, _, _⟩) (v := ?_) rfl (Or.inl ⟨by rfl, ?_⟩) hS ?_
     rotate_left 1
     · intro w' hB; (go_simp <;> with_reducible rfl)
     try simp only [Act.put, zA, zB, zC]
     refine tk (i := 18) (oi := ⟨some 48, _, _, _, _, _⟩) (v := ?_) rfl (Or.inl ⟨by rfl, ?_⟩) hS ?_
     rotate_left 1
     · intro w' hB; have hd := (HC.out.to w (by simp)).trans (hB.mono (HC.out.to w (by simp)).size); obtain ⟨x0, x1, x2, x3⟩ := (HL.out.below hd rfl).cellsP (pa ll) (some ⟨bm, 0, none⟩) rfl rfl; obtain ⟨y0, y1, y2, y3⟩ := (HL.out.2.2.below hd rfl).cellsP (pa ml) (pa mr) rfl rfl; clear hd; (go_simp <;> with_reducible rfl)
     try simp only [Act.put, zA, zB, zC]
     refine tk (i := 19) (oi := ⟨some 49, _, _, _, _, _⟩) (v := ?_) rfl (Or.inl ⟨by rfl, ?_⟩) hS ?_
     rotate_left 1
     · intro w' hB; (go_simp <;> with_reducible rfl)
     try simp only [Act.put, zA, zB, zC]
     refine tk (i := 20) (oi := ⟨some 50, _, _, _, _, _⟩) (v := ?_) rfl (Or.inl ⟨by rfl, ?_⟩) hS ?_
     rotate_left 1
     · intro w' hB; have hd := (HC.out.to w (by simp)).trans (hB.mono (HC.out.to w (by simp)).size); obtain ⟨x0, x1, x2, x3⟩ := (HL.out.below hd rfl).cellsP (pa ll) (some ⟨bm, 0, none⟩) rfl rfl; obtain ⟨y0, y1, y2, y3⟩ := (HL.out.2.2.below hd rfl).cellsP (pa ml) (pa mr) rfl rfl; clear hd; (go_simp <;> with_reducible rfl)
     try simp only [Act.put, zA, zB, zC]
     refine tk (i := 21) (oi := ⟨some 51, _, _, _, _, _⟩) (v := ?_) rfl (Or.inl ⟨by rfl, ?_⟩) hS ?_
     rotate_left 1
     · intro w' hB; (go_simp <;> with_reducible rfl)
     try simp only [Act.put, zA, zB, zC]
     refine tk (i := 22) (oi := ⟨some 52, _, _, _, _, _⟩) (v := ?_) rfl (Or.inl ⟨by rfl, ?_⟩) hS ?_
     rotate_left 1
     · intro w' hB; have hd := (HC.out.to w (by simp)).trans (hB.mono (HC.out.to w (by simp)).size); obtain ⟨x0, x1, x2, x3⟩ := (HL.out.below hd rfl).cellsP (pa ll) (some ⟨bm, 0, none⟩) rfl rfl; obtain ⟨y0, y1, y2, y3⟩ := (HL.out.2.2.below hd rfl).cellsP (pa ml) (pa mr) rfl rfl; clear hd; (go_simp <;> with_reducible rfl)
     try simp only [Act.put, zA, zB, zC]
     refine tk (i := 23) (oi := ⟨some 53, _, _, _, _, _⟩) (v := ?_) rfl (Or.inl ⟨by rfl, ?_⟩) hS ?_
     rotate_left 1
     · intro w' hB; (go_simp <;> with_reducible rfl)
     try simp only [Act.put, zA, zB, zC]
     refine tk (i := 24) (oi := ⟨some 54, _, _, _, _, _⟩) (v := ?_) rfl (Or.inl ⟨by rfl, ?_⟩) hS ?_
     rotate_left 1
     · intro w' hB; have hd := (HC.out.to w (by simp)).trans (hB.mono (HC.out.to w (by simp)).size); obtain ⟨x0, x1, x2, x3⟩ := (HL.out.below hd rfl).cellsP (pa ll) (some ⟨bm, 0, none⟩) rfl rfl; obtain ⟨y0, y1, y2, y3⟩ := (HL.out.2.2.below hd rfl).cellsP (pa ml) (pa mr) rfl rfl; clear hd; (go_simp <;> with_reducible rfl)
     try simp only [Act.put, zA, zB, zC]
     refine tk (i := 25) (oi := ⟨some 55, _, _, _, _, _⟩) (v := ?_) rfl (Or.inl ⟨by rfl, ?_⟩) hS ?_
     rotate_left 1
     · intro w' hB; (go_simp <;> with_reducible rfl)
     try simp only [Act.put, zA, zB, zC]
     refine tk (i := 26) (oi := ⟨some 56, _, _, _, _, _⟩) (v := ?_) rfl (Or.inl ⟨by rfl, ?_⟩) hS ?_
     rotate_left 1
     · intro w' hB; have hd := (HC.out.to w (by simp)).trans (hB.mono (HC.out.to w (by simp)).size); obtain ⟨x0, x1, x2, x3⟩ := (HL.out.below hd rfl).cellsP (pa ll) (some ⟨bm, 0, none⟩) rfl rfl; obtain ⟨y0, y1, y2, y3⟩ := (HL.out.2.2.below hd rfl).cellsP (pa ml) (pa mr) rfl rfl; clear hd; (go_simp <;> with_reducible rfl)
     try simp only [Act.put, zA, zB, zC]
     refine tk (i := 27) (oi := ⟨some 57, _, _, _, _, _⟩) (v := ?_) rfl (Or.inl ⟨by rfl, ?_⟩) hS ?_
     rotate_left 1
     · intro w' hB; (go_simp <;> with_reducible rfl)
     try simp only [Act.put, zA, zB, zC]
     refine tk (i := 28) (oi := ⟨some 58, _, _, _, _, _⟩) (v := ?_) rfl (Or.inl ⟨by rfl, ?_⟩) hS ?_
     rotate_left 1
     · intro w' hB; have hd := (HC.out.to w (by simp)).trans (hB.mono (HC.out.to w (by simp)).size); obtain ⟨x0, x1, x2, x3⟩ := (HL.out.below hd rfl).cellsP (pa ll) (some ⟨bm, 0, none⟩) rfl rfl; obtain ⟨y0, y1, y2, y3⟩ := (HL.out.2.2.below hd rfl).cellsP (pa ml) (pa mr) rfl rfl; clear hd; (go_simp <;> with_reducible rfl)
     try simp only [Act.put, zA, zB, zC]
     refine tk (i := 29) (oi := ⟨some 59, _, _, _, _, _⟩) (v := ?_) rfl (Or.inl ⟨by rfl, ?_⟩) hS ?_
     rotate_left 1
     · intro w' hB; (go_simp <;> with_reducible rfl)
     try simp only [Act.put, zA, zB, zC]
     refine tk (i := 30) (oi := ⟨some 60, _, _, _, _, _⟩) (v := ?_) rfl (Or.inl ⟨by rfl, ?_⟩) hS ?_
     rotate_left 1
     · intro w' hB; (go_simp <;> with_reducible rfl)
     try simp only [Act.put, zA, zB, zC]
     refine tk (i := 31) (oi := ⟨some 61, _, _, _, _, _⟩) (v := ?_) rfl (Or.inl ⟨by rfl, ?_⟩) hS ?_
     rotate_left 1
     · intro w' hB; (go_simp <;> with_reducible rfl)
     try simp only [Act.put, zA, zB, zC]
     refine wpAnyH_ready (rs := [16]) (by kernel_rfl) (by simp) (AllReadyH.cons (o := ⟨some 46, _, _, _, _, _⟩) rfl (fun K hK => ?_) AllReadyH.nil)
     go_simp
     refine (pm_nodeS N ll ml lk lv _ (Nat.le_trans hN (HC.out.le hS (by simp))) (HL.out.2.1.chain HC.out hS (by simp)) (HL.out.2.2.2.1.chain HC.out hS (by simp)) (by have := HZ.out; simp only [sz] at this; omega)).mono ?_
     rintro e p1 ⟨b2, hb2, rfl, hA2, hb⟩
     refine hK.out _ _ (hS.trans (hb.mono hS.size)) (fun _ => ?_)
     clear hK K
     have hB := hS.trans (hb.mono hS.size)
     refine wpAnyH_now hB ?_
     clear hS
     have hS := Below.refl p1.heap.size p1
     replace HC := Lib.hid (HC.out.push hB)
     have B2 := Lib.hid hb2
     have A2 := Lib.hid hA2
     clear hb2 hA2
     clear hB hb
     try simp only [Act.put, zA, zB, zC]
     refine wpAnyH_ready (rs := [32]) (by kernel_rfl) (by simp) (AllReadyH.cons (o := ⟨some 62, _, _, _, _, _⟩) rfl (fun K hK => ?_) AllReadyH.nil)
     go_simp
     refine (pm_nodeS N mr r k v _ (Nat.le_trans hN (HC.out.le hS (by simp))) (HL.out.2.2.2.2.chain HC.out hS (by simp)) (HR.out.chain HC.out hS (by simp)) (by have := HZ.out; simp only [sz] at this; omega)).mono ?_
     rintro e p2 ⟨b3, hb3, rfl, hA3, hb⟩
     refine hK.out _ _ (hS.trans (hb.mono hS.size)) (fun _ => ?_)
     clear hK K
     have hB := hS.trans (hb.mono hS.size)
     refine wpAnyH_now hB ?_
     clear hS
     have hS := Below.refl p2.heap.size p2
     replace HC := Lib.hid (HC.out.push hB)
     have B3 := Lib.hid hb3
     have A3 := Lib.hid hA3
     clear hb3 hA3
     clear hB hb
     try simp only [Act.put, zA, zB, zC]
     refine wpAnyH_ready (rs := [33]) (by kernel_rfl) (by simp) (AllReadyH.cons (o := ⟨some 63, _, _, _, _, _⟩) rfl (fun K hK => ?_) AllReadyH.nil)
     go_simp
     refine (pm_nodeS N (.node b2 ll lk lv ml) (.node b3 mr k v r) mk mv _ (Nat.le_trans hN (HC.out.le hS (by simp))) (A2.out.chain HC.out hS (by simp)) (A3.out.chain HC.out hS (by simp)) (by have := HZ.out; simp only [sz] at this ⊢; omega)).mono ?_
     rintro e p3 ⟨b1, hb1, rfl, hA1, hb⟩
     refine hK.out _ _ (hS.trans (hb.mono hS.size)) (fun _ => ?_)
     clear hK K
     have hB := hS.trans (hb.mono hS.size)
     refine wpAnyH_now hB ?_
     clear hS
     have hS := Below.refl p3.heap.size p3
     replace HC := Lib.hid (HC.out.push hB)
     have B1 := Lib.hid hb1
     have A1 := Lib.hid hA1
     clear hb1 hA1
     clear hB hb
     try simp only [Act.put, zA, zB, zC]
     refine tk (i := 34) (oi := ⟨some 8, _, _, _, _, _⟩) (v := ?_) rfl (Or.inl ⟨by rfl, ?_⟩) hS ?_
     rotate_left 1
     · intro w' hB; have hd := (HC.out.to w (by simp)).trans (hB.mono (HC.out.to w (by simp)).size); obtain ⟨x0, x1, x2, x3⟩ := (HL.out.below hd rfl).cellsP (pa ll) (some ⟨bm, 0, none⟩) rfl rfl; obtain ⟨y0, y1, y2, y3⟩ := (HL.out.2.2.below hd rfl).cellsP (pa ml) (pa mr) rfl rfl; clear hd; (go_simp <;> with_reducible rfl)
     try simp only [Act.put, zA, zB, zC]
     refine wpAnyH_done (by kernel_rfl) (NoPanic.normal ?_) _
     all_goals
      clear hS
      go_wp2_with fail
      go_ret
      exact ⟨_, .lr h1 h2 B1.out B2.out B3.out, rfl, A1.out, HC.out.to w (by simp)⟩
   · have hi2 : ¬ (ht ll : Int) < (ht lr : Int) := by omega
     obtain ⟨x0, x1, x2, x3⟩ := HL.out.cellsP (pa ll) (pa lr) rfl rfl
     change Calls _ _ #[.pointer (some ⟨bl, 0, none⟩), .string k, .string v, .pointer (pa r)] w _
     go_enter Tryz.func100, Tryz.ntmps100
     go_wp2_with fail
     refine (pm_HeightS (.node bl ll lk lv lr) _ HL.out).mono ?_
     rintro e w' ⟨rfl, rfl⟩
     go_wp2_with fail
     refine (pm_HeightS r _ HR.out).mono ?_
     rintro e w' ⟨rfl, rfl⟩
     go_wp2_with fail
     refine (pm_HeightS ll _ HL.out.2.1).mono ?_
     rintro e w' ⟨rfl, rfl⟩
     go_wp2_with fail
     refine (pm_HeightS lr _ HL.out.2.2).mono ?_
     rintro e w' ⟨rfl, rfl⟩
     go_wp2_with fail
     clear x0 x1 x2 x3
     refine wp_region_noPanic ?_
     refine wp_region_held_drew (S := fun w' => Below w.heap.size w w') (by kernel_rfl) (Below.refl _ _).drew (fun hS => ?_)
     refine tk (i := 0) (oi := ⟨some 64, _, _, _, _, _⟩) (v := ?_) rfl (Or.inl ⟨by rfl, ?_⟩) hS ?_
     rotate_left 1
     · intro w' hB; (go_simp <;> with_reducible rfl)
     try simp only [Act.put, zA, zB, zC]
     refine tk (i := 1) (oi := ⟨some 65, _, _, _, _, _⟩) (v := ?_) rfl (Or.inl ⟨by rfl, ?_⟩) hS ?_
     rotate_left 1
     · intro w' hB; have hd := (HC.out.to w (by simp)).trans (hB.mono (HC.out.to w (by simp)).size); obtain ⟨x0, x1, x2, x3⟩ := (HL.out.below hd rfl).cellsP (pa ll) (pa lr) rfl rfl; clear hd; (go_simp <;> with_reducible rfl)
     try simp only [Act.put, zA, zB, zC]
     refine tk (i := 2) (oi := ⟨some 66, _, _, _, _, _⟩) (v := ?_) rfl (Or.inl ⟨by rfl, ?_⟩) hS ?_
     rotate_left 1
     · intro w' hB; (go_simp <;> with_reducible rfl)
     try simp only [Act.put, zA, zB, zC]
     refine tk (i := 3) (oi := ⟨some 67, _, _, _, _, _⟩) (v := ?_) rfl (Or.inl ⟨by rfl, ?_⟩) hS ?_
     rotate_left 1
     · intro w' hB; have hd := (HC.out.to w (by simp)).trans (hB.mono (HC.out.to w (by simp)).size); obtain ⟨x0, x1, x2, x3⟩ := (HL.out.below hd rfl).cellsP (pa ll) (pa lr) rfl rfl; clear hd; (go_simp <;> with_reducible rfl)
     try simp only [Act.put, zA, zB, zC]
     refine tk (i := 4) (oi := ⟨some 68, _, _, _, _, _⟩) (v := ?_) rfl (Or.inl ⟨by rfl, ?_⟩) hS ?_
     rotate_left 1
     · intro w' hB; (go_simp <;> with_reducible rfl)
     try simp only [Act.put, zA, zB, zC]
     refine tk (i := 5) (oi := ⟨some 69, _, _, _, _, _⟩) (v := ?_) rfl (Or.inl ⟨by rfl, ?_⟩) hS ?_
     rotate_left 1
     · intro w' hB; have hd := (HC.out.to w (by simp)).trans (hB.mono (HC.out.to w (by simp)).size); obtain ⟨x0, x1, x2, x3⟩ := (HL.out.below hd rfl).cellsP (pa ll) (pa lr) rfl rfl; clear hd; (go_simp <;> with_reducible rfl)
     try simp only [Act.put, zA, zB, zC]
     refine tk (i := 6) (oi := ⟨some 70, _, _, _, _, _⟩) (v := ?_) rfl (Or.inl ⟨by rfl, ?_⟩) hS ?_
     rotate_left 1
     · intro w' hB; (go_simp <;> with_reducible rfl)
     try simp only [Act.put, zA, zB, zC]
     refine tk (i := 7) (oi := ⟨some 71, _, _, _, _, _⟩) (v := ?_) rfl (Or.inl ⟨by rfl, ?_⟩) hS ?_
     rotate_left 1
     · intro w' hB; have hd := (HC.out.to w (by simp)).trans (hB.mono (HC.out.to w (by simp)).size); obtain ⟨x0, x1, x2, x3⟩ := (HL.out.below hd rfl).cellsP (pa ll) (pa lr) rfl rfl; clear hd; (go_simp <;> with_reducible rfl)
     try simp only [Act.put, zA, zB, zC]
     refine tk (i := 8) (oi := ⟨some 72, _, _, _, _, _⟩) (v := ?_) rfl (Or.inl ⟨by rfl, ?_⟩) hS ?_
     rotate_left 1
     · intro w' hB; (go_simp <;> with_reducible rfl)
     try simp only [Act.put, zA, zB, zC]
     refine tk (i := 9) (oi := ⟨some 73, _, _, _, _, _⟩) (v := ?_) rfl (Or.inl ⟨by rfl, ?_⟩) hS ?_
     rotate_left 1
     · intro w' hB; have hd := (HC.out.to w (by simp)).trans (hB.mono (HC.out.to w (by simp)).size); obtain ⟨x0, x1, x2, x3⟩ := (HL.out.below hd rfl).cellsP (pa ll) (pa lr) rfl rfl; clear hd; (go_simp <;> with_reducible rfl)
     try simp only [Act.put, zA, zB, zC]
     refine tk (i := 10) (oi := ⟨some 74, _, _, _, _, _⟩) (v := ?_) rfl (Or.inl ⟨by rfl, ?_⟩) hS ?_
     rotate_left 1
     · intro w' hB; (go_simp <;> with_reducible rfl)
     try simp only [Act.put, zA, zB, zC]
     refine tk (i := 11) (oi := ⟨some 75, _, _, _, _, _⟩) (v := ?_) rfl (Or.inl ⟨by rfl, ?_⟩) hS ?_
     rotate_left 1
     · intro w' hB; have hd := (HC.out.to w (by simp)).trans (hB.mono (HC.out.to w (by simp)).size); obtain ⟨x0, x1, x2, x3⟩ := (HL.out.below hd rfl).cellsP (pa ll) (pa lr) rfl rfl; clear hd; (go_simp <;> with_reducible rfl)
     try simp only [Act.put, zA, zB, zC]
     refine tk (i := 12) (oi := ⟨some 76, _, _, _, _, _⟩) (v := ?_) rfl (Or.inl ⟨by rfl, ?_⟩) hS ?_
     rotate_left 1
     · intro w' hB; (go_simp <;> with_reducible rfl)
     try simp only [Act.put, zA, zB, zC]
     refine tk (i := 13) (oi := ⟨some 77, _, _, _, _, _⟩) (v := ?_) rfl (Or.inl ⟨by rfl, ?_⟩) hS ?_
     rotate_left 1
     · intro w' hB; have hd := (HC.out.to w (by simp)).trans (hB.mono (HC.out.to w (by simp)).size); obtain ⟨x0, x1, x2, x3⟩ := (HL.out.below hd rfl).cellsP (pa ll) (pa lr) rfl rfl; clear hd; (go_simp <;> with_reducible rfl)
     try simp only [Act.put, zA, zB, zC]
     refine tk (i := 14) (oi := ⟨some 78, _, _, _, _, _⟩) (v := ?_) rfl (Or.inl ⟨by rfl, ?_⟩) hS ?_
     rotate_left 1
     · intro w' hB; (go_simp <;> with_reducible rfl)
     try simp only [Act.put, zA, zB, zC]
     refine tk (i := 15) (oi := ⟨some 79, _, _, _, _, _⟩) (v := ?_) rfl (Or.inl ⟨by rfl, ?_⟩) hS ?_
     rotate_left 1
     · intro w' hB; have hd := (HC.out.to w (by simp)).trans (hB.mono (HC.out.to w (by simp)).size); obtain ⟨x0, x1, x2, x3⟩ := (HL.out.below hd rfl).cellsP (pa ll) (pa lr) rfl rfl; clear hd; (go_simp <;> with_reducible rfl)
     try simp only [Act.put, zA, zB, zC]
     refine tk (i := 16) (oi := ⟨some 80, _, _, _, _, _⟩) (v := ?_) rfl (Or.inl ⟨by rfl, ?_⟩) hS ?_
     rotate_left 1
     · intro w' hB; (go_simp <;> with_reducible rfl)
     try simp only [Act.put, zA, zB, zC]
     refine tk (i := 17) (oi := ⟨some 81, _, _, _, _, _⟩) (v := ?_) rfl (Or.inl ⟨by rfl, ?_⟩) hS ?_
     rotate_left 1
     · intro w' hB; (go_simp <;> with_reducible rfl)
     try simp only [Act.put, zA, zB, zC]
     refine tk (i := 18) (oi := ⟨some 82, _, _, _, _, _⟩) (v := ?_) rfl (Or.inl ⟨by rfl, ?_⟩) hS ?_
     rotate_left 1
     · intro w' hB; (go_simp <;> with_reducible rfl)
     try simp only [Act.put, zA, zB, zC]
     refine wpAnyH_ready (rs := [19]) (by kernel_rfl) (by simp) (AllReadyH.cons (o := ⟨some 83, _, _, _, _, _⟩) rfl (fun K hK => ?_) AllReadyH.nil)
     go_simp
     refine (pm_nodeS N lr r k v _ (Nat.le_trans hN (HC.out.le hS (by simp))) (HL.out.2.2.chain HC.out hS (by simp)) (HR.out.chain HC.out hS (by simp)) (by have := HZ.out; simp only [sz] at this ⊢; omega)).mono ?_
     rintro e p2 ⟨b2, hb2, rfl, hA2, hb⟩
     refine hK.out _ _ (hS.trans (hb.mono hS.size)) (fun _ => ?_)
     clear hK K
     have hB := hS.trans (hb.mono hS.size)
     refine wpAnyH_now hB ?_
     clear hS
     have hS := Below.refl p2.heap.size p2
     replace HC := Lib.hid (HC.out.push hB)
     have B2 := Lib.hid hb2
     have A2 := Lib.hid hA2
     clear hb2 hA2
     clear hB hb
     try simp only [Act.put, zA, zB, zC]
     refine wpAnyH_ready (rs := [20]) (by kernel_rfl) (by simp) (AllReadyH.cons (o := ⟨some 84, _, _, _, _, _⟩) rfl (fun K hK => ?_) AllReadyH.nil)
     go_simp
     refine (pm_nodeS N ll (.node b2 lr k v r) lk lv _ (Nat.le_trans hN (HC.out.le hS (by simp))) (HL.out.2.1.chain HC.out hS (by simp)) (A2.out.chain HC.out hS (by simp)) (by have := HZ.out; simp only [sz] at this ⊢; omega)).mono ?_
     rintro e p1 ⟨b1, hb1, rfl, hA1, hb⟩
     refine hK.out _ _ (hS.trans (hb.mono hS.size)) (fun _ => ?_)
     clear hK K
     have hB := hS.trans (hb.mono hS.size)
     refine wpAnyH_now hB ?_
     clear hS
     have hS := Below.refl p1.heap.size p1
     replace HC := Lib.hid (HC.out.push hB)
     have B1 := Lib.hid hb1
     have A1 := Lib.hid hA1
     clear hb1 hA1
     clear hB hb
     try simp only [Act.put, zA, zB, zC]
     refine tk (i := 21) (oi := ⟨some 8, _, _, _, _, _⟩) (v := ?_) rfl (Or.inl ⟨by rfl, ?_⟩) hS ?_
     rotate_left 1
     · intro w' hB; have hd := (HC.out.to w (by simp)).trans (hB.mono (HC.out.to w (by simp)).size); obtain ⟨x0, x1, x2, x3⟩ := (HL.out.below hd rfl).cellsP (pa ll) (pa lr) rfl rfl; clear hd; (go_simp <;> with_reducible rfl)
     try simp only [Act.put, zA, zB, zC]
     refine wpAnyH_done (by kernel_rfl) (NoPanic.normal ?_) _
     all_goals
      clear hS
      go_wp2_with fail
      go_ret
      exact ⟨_, .ll h1 (by omega) B1.out B2.out, rfl, A1.out, HC.out.to w (by simp)⟩
 · have hi1 : ¬ ((ht r : Int) + 1) < (ht l : Int) := by omega
   by_cases h3 : ht l + 1 < ht r
   · obtain ⟨br, rl, rk, rv, rr, rfl⟩ := ht_pos (t := r) (by omega)
     have hi3 : ((ht l : Int) + 1) < (ht (.node br rl rk rv rr) : Int) := by omega
     have hk1 := ht_le rl
     have hk2 := ht_le rr
     by_cases h2 : ht rr < ht rl
     · obtain ⟨bm, ml, mk, mv, mr, rfl⟩ := ht_pos (t := rl) (by omega)
       have hi2 : (ht rr : Int) < (ht (.node bm ml mk mv mr) : Int) := by omega
       obtain ⟨x0, x1, x2, x3⟩ := HR.out.cellsP (some ⟨bm, 0, none⟩) (pa rr) rfl rfl
       change Calls _ _ #[.pointer (pa l), .string k, .string v, .pointer (some ⟨br, 0, none⟩)] w _
       go_enter Tryz.func100, Tryz.ntmps100
       go_wp2_with fail
       refine (pm_HeightS l _ HL.out).mono ?_
       rintro e w' ⟨rfl, rfl⟩
       go_wp2_with fail
       refine (pm_HeightS (.node br (.node bm ml mk mv mr) rk rv rr) _ HR.out).mono ?_
       rintro e w' ⟨rfl, rfl⟩
       go_wp2_with fail
       refine (pm_HeightS (.node br (.node bm ml mk mv mr) rk rv rr) _ HR.out).mono ?_
       rintro e w' ⟨rfl, rfl⟩
       go_wp2_with fail
       refine (pm_HeightS l _ HL.out).mono ?_
       rintro e w' ⟨rfl, rfl⟩
       go_wp2_with fail
       refine (pm_HeightS rr _ HR.out.2.2).mono ?_
       rintro e w' ⟨rfl, rfl⟩
       go_wp2_with fail
       refine (pm_HeightS (.node bm ml mk mv mr) _ HR.out.2.1).mono ?_
       rintro e w' ⟨rfl, rfl⟩
       go_wp2_with fail
       clear x0 x1 x2 x3
       refine wp_region_noPanic ?_
       refine wp_region_held_drew (S := fun w' => Below w.heap.size w w') (by kernel_rfl) (Below.refl _ _).drew (fun hS => ?_)
       refine tk (i := 0) (oi := ⟨some 104, _, _, _, _, _⟩) (v := ?_) rfl (Or.inl ⟨by rfl, ?_⟩) hS ?_
       rotate_left 1
       · intro w' hB; (go_simp <;> with_reducible rfl)
       try simp only [Act.put, zA, zB, zC]
       refine tk (i := 1) (oi := ⟨some 105, _, _, _, _, _⟩) (v := ?_) rfl (Or.inl ⟨by rfl, ?_⟩) hS ?_
       rotate_left 1
       · intro w' hB; (go_simp <;> with_reducible rfl)
       try simp only [Act.put, zA, zB, zC]
       refine tk (i := 2) (oi := ⟨some 106, _, _, _, _, _⟩) (v := ?_) rfl (Or.inl ⟨by rfl, ?_⟩) hS ?_
       rotate_left 1
       · intro w' hB; (go_simp <;> with_reducible rfl)
       try simp only [Act.put, zA, zB, zC]
       refine tk (i := 3) (oi := ⟨some 107, _, _, _, _, _⟩) (v := ?_) rfl (Or.inl ⟨by rfl, ?_⟩) hS ?_
       rotate_left 1
       · intro w' hB; (go_simp <;> with_reducible rfl)
       try simp only [Act.put, zA, zB, zC]
       refine tk (i := 4) (oi := ⟨some 108, _, _, _, _, _⟩) (v := ?_) rfl (Or.inl ⟨by rfl, ?_⟩) hS ?_
       rotate_left 1
       · intro w' hB; have hd := (HC.out.to w (by simp)).trans (hB.mono (HC.out.to w (by simp)).size); obtain ⟨x0, x1, x2, x3⟩ := (HR.out.below hd rfl).cellsP (some ⟨bm, 0, none⟩) (pa rr) rfl rfl; obtain ⟨y0, y1, y2, y3⟩ := (HR.out.2.1.below hd rfl).cellsP (pa ml) (pa mr) rfl rfl; clear hd; (go_simp <;> with_reducible rfl)
       try simp only [Act.put, zA, zB, zC]
       refine tk (i := 5) (oi := ⟨some 109, _, _, _, _, _⟩) (v := ?_) rfl (Or.inl ⟨by rfl, ?_⟩) hS ?_
       rotate_left 1
       · intro w' hB; (go_simp <;> with_reducible rfl)
       try simp only [Act.put, zA, zB, zC]
       refine tk (i := 6) (oi := ⟨some 110, _, _, _, _, _⟩) (v := ?_) rfl (Or.inl ⟨by rfl, ?_⟩) hS ?_
       rotate_left 1
       · intro w' hB; have hd := (HC.out.to w (by simp)).trans (hB.mono (HC.out.to w (by simp)).size); obtain ⟨x0, x1, x2, x3⟩ := (HR.out.below hd rfl).cellsP (some ⟨bm, 0, none⟩) (pa rr) rfl rfl; obtain ⟨y0, y1, y2, y3⟩ := (HR.out.2.1.below hd rfl).cellsP (pa ml) (pa mr) rfl rfl; clear hd; (go_simp <;> with_reducible rfl)
       try simp only [Act.put, zA, zB, zC]
       refine tk (i := 8) (oi := ⟨some 112, _, _, _, _, _⟩) (v := ?_) rfl (Or.inl ⟨by rfl, ?_⟩) hS ?_
       rotate_left 1
       · intro w' hB; (go_simp <;> with_reducible rfl)
       try simp only [Act.put, zA, zB, zC]
       refine tk (i := 9) (oi := ⟨some 113, _, _, _, _, _⟩) (v := ?_) rfl (Or.inl ⟨by rfl, ?_⟩) hS ?_
       rotate_left 1
       · intro w' hB; have hd := (HC.out.to w (by simp)).trans (hB.mono (HC.out.to w (by simp)).size); obtain ⟨x0, x1, x2, x3⟩ := (HR.out.below hd rfl).cellsP (some ⟨bm, 0, none⟩) (pa rr) rfl rfl; obtain ⟨y0, y1, y2, y3⟩ := (HR.out.2.1.below hd rfl).cellsP (pa ml) (pa mr) rfl rfl; clear hd; (go_simp <;> with_reducible rfl)
       try simp only [Act.put, zA, zB, zC]
       refine tk (i := 10) (oi := ⟨some 114, _, _, _, _, _⟩) (v := ?_) rfl (Or.inl ⟨by rfl, ?_⟩) hS ?_
       rotate_left 1
       · intro w' hB; (go_simp <;> with_reducible rfl)
       try simp only [Act.put, zA, zB, zC]
       refine tk (i := 11) (oi := ⟨some 115, _, _, _, _, _⟩) (v := ?_) rfl (Or.inl ⟨by rfl, ?_⟩) hS ?_
       rotate_left 1
       · intro w' hB; have hd := (HC.out.to w (by simp)).trans (hB.mono (HC.out.to w (by simp)).size); obtain ⟨x0, x1, x2, x3⟩ := (HR.out.below hd rfl).cellsP (some ⟨bm, 0, none⟩) (pa rr) rfl rfl; obtain ⟨y0, y1, y2, y3⟩ := (HR.out.2.1.below hd rfl).cellsP (pa ml) (pa mr) rfl rfl; clear hd; (go_simp <;> with_reducible rfl)
       try simp only [Act.put, zA, zB, zC]
       refine tk (i := 12) (oi := ⟨some 116, _, _, _, _, _⟩) (v := ?_) rfl (Or.inl ⟨by rfl, ?_⟩) hS ?_
       rotate_left 1
       · intro w' hB; (go_simp <;> with_reducible rfl)
       try simp only [Act.put, zA, zB, zC]
       refine tk (i := 13) (oi := ⟨some 117, _, _, _, _, _⟩) (v := ?_) rfl (Or.inl ⟨by rfl, ?_⟩) hS ?_
       rotate_left 1
       · intro w' hB; have hd := (HC.out.to w (by simp)).trans (hB.mono (HC.out.to w (by simp)).size); obtain ⟨x0, x1, x2, x3⟩ := (HR.out.below hd rfl).cellsP (some ⟨bm, 0, none⟩) (pa rr) rfl rfl; obtain ⟨y0, y1, y2, y3⟩ := (HR.out.2.1.below hd rfl).cellsP (pa ml) (pa mr) rfl rfl; clear hd; (go_simp <;> with_reducible rfl)
       try simp only [Act.put, zA, zB, zC]
       refine tk (i := 14) (oi := ⟨some 118, _, _, _, _, _⟩) (v := ?_) rfl (Or.inl ⟨by rfl, ?_⟩) hS ?_
       rotate_left 1
       · intro w' hB; (go_simp <;> with_reducible rfl)
       try simp only [Act.put, zA, zB, zC]
       refine tk (i := 15) (oi := ⟨some 119, _, _, _, _, _⟩) (v := ?_) rfl (Or.inl ⟨by rfl, ?_⟩) hS ?_
       rotate_left 1
       · intro w' hB; have hd := (HC.out.to w (by simp)).trans (hB.mono (HC.out.to w (by simp)).size); obtain ⟨x0, x1, x2, x3⟩ := (HR.out.below hd rfl).cellsP (some ⟨bm, 0, none⟩) (pa rr) rfl rfl; obtain ⟨y0, y1, y2, y3⟩ := (HR.out.2.1.below hd rfl).cellsP (pa ml) (pa mr) rfl rfl; clear hd; (go_simp <;> with_reducible rfl)
       try simp only [Act.put, zA, zB, zC]
       refine tk (i := 16) (oi := ⟨some 120, _, _, _, _, _⟩) (v := ?_) rfl (Or.inl ⟨by rfl, ?_⟩) hS ?_
       rotate_left 1
       · intro w' hB; (go_simp <;> with_reducible rfl)
       try simp only [Act.put, zA, zB, zC]
       refine tk (i := 17) (oi := ⟨some 121, _, _, _, _, _⟩) (v := ?_) rfl (Or.inl ⟨by rfl, ?_⟩) hS ?_
       rotate_left 1
       · intro w' hB; have hd := (HC.out.to w (by simp)).trans (hB.mono (HC.out.to w (by simp)).size); obtain ⟨x0, x1, x2, x3⟩ := (HR.out.below hd rfl).cellsP (some ⟨bm, 0, none⟩) (pa rr) rfl rfl; obtain ⟨y0, y1, y2, y3⟩ := (HR.out.2.1.below hd rfl).cellsP (pa ml) (pa mr) rfl rfl; clear hd; (go_simp <;> with_reducible rfl)
       try simp only [Act.put, zA, zB, zC]
       refine tk (i := 18) (oi := ⟨some 122, _, _, _, _, _⟩) (v := ?_) rfl (Or.inl ⟨by rfl, ?_⟩) hS ?_
       rotate_left 1
       · intro w' hB; (go_simp <;> with_reducible rfl)
       try simp only [Act.put, zA, zB, zC]
       refine tk (i := 19) (oi := ⟨some 123, _, _, _, _, _⟩) (v := ?_) rfl (Or.inl ⟨by rfl, ?_⟩) hS ?_
       rotate_left 1
       · intro w' hB; have hd := (HC.out.to w (by simp)).trans (hB.mono (HC.out.to w (by simp)).size); obtain ⟨x0, x1, x2, x3⟩ := (HR.out.below hd rfl).cellsP (some ⟨bm, 0, none⟩) (pa rr) rfl rfl; obtain ⟨y0, y1, y2, y3⟩ := (HR.out.2.1.below hd rfl).cellsP (pa ml) (pa mr) rfl rfl; clear hd; (go_simp <;> with_reducible rfl)
       try simp only [Act.put, zA, zB, zC]
       refine tk (i := 20) (oi := ⟨some 124, _, _, _, _, _⟩) (v := ?_) rfl (Or.inl ⟨by rfl, ?_⟩) hS ?_
       rotate_left 1
       · intro w' hB; (go_simp <;> with_reducible rfl)
       try simp only [Act.put, zA, zB, zC]
       refine tk (i := 21) (oi := ⟨some 125, _, _, _, _, _⟩) (v := ?_) rfl (Or.inl ⟨by rfl, ?_⟩) hS ?_
       rotate_left 1
       · intro w' hB; have hd := (HC.out.to w (by simp)).trans (hB.mono (HC.out.to w (by simp)).size); obtain ⟨x0, x1, x2, x3⟩ := (HR.out.below hd rfl).cellsP (some ⟨bm, 0, none⟩) (pa rr) rfl rfl; obtain ⟨y0, y1, y2, y3⟩ := (HR.out.2.1.below hd rfl).cellsP (pa ml) (pa mr) rfl rfl; clear hd; (go_simp <;> with_reducible rfl)
       try simp only [Act.put, zA, zB, zC]
       refine tk (i := 22) (oi := ⟨some 126, _, _, _, _, _⟩) (v := ?_) rfl (Or.inl ⟨by rfl, ?_⟩) hS ?_
       rotate_left 1
       · intro w' hB; (go_simp <;> with_reducible rfl)
       try simp only [Act.put, zA, zB, zC]
       refine tk (i := 23) (oi := ⟨some 127, _, _, _, _, _⟩) (v := ?_) rfl (Or.inl ⟨by rfl, ?_⟩) hS ?_
       rotate_left 1
       · intro w' hB; have hd := (HC.out.to w (by simp)).trans (hB.mono (HC.out.to w (by simp)).size); obtain ⟨x0, x1, x2, x3⟩ := (HR.out.below hd rfl).cellsP (some ⟨bm, 0, none⟩) (pa rr) rfl rfl; obtain ⟨y0, y1, y2, y3⟩ := (HR.out.2.1.below hd rfl).cellsP (pa ml) (pa mr) rfl rfl; clear hd; (go_simp <;> with_reducible rfl)
       try simp only [Act.put, zA, zB, zC]
       refine tk (i := 24) (oi := ⟨some 128, _, _, _, _, _⟩) (v := ?_) rfl (Or.inl ⟨by rfl, ?_⟩) hS ?_
       rotate_left 1
       · intro w' hB; (go_simp <;> with_reducible rfl)
       try simp only [Act.put, zA, zB, zC]
       refine tk (i := 25) (oi := ⟨some 129, _, _, _, _, _⟩) (v := ?_) rfl (Or.inl ⟨by rfl, ?_⟩) hS ?_
       rotate_left 1
       · intro w' hB; have hd := (HC.out.to w (by simp)).trans (hB.mono (HC.out.to w (by simp)).size); obtain ⟨x0, x1, x2, x3⟩ := (HR.out.below hd rfl).cellsP (some ⟨bm, 0, none⟩) (pa rr) rfl rfl; obtain ⟨y0, y1, y2, y3⟩ := (HR.out.2.1.below hd rfl).cellsP (pa ml) (pa mr) rfl rfl; clear hd; (go_simp <;> with_reducible rfl)
       try simp only [Act.put, zA, zB, zC]
       refine tk (i := 26) (oi := ⟨some 130, _, _, _, _, _⟩) (v := ?_) rfl (Or.inl ⟨by rfl, ?_⟩) hS ?_
       rotate_left 1
       · intro w' hB; (go_simp <;> with_reducible rfl)
       try simp only [Act.put, zA, zB, zC]
       refine tk (i := 27) (oi := ⟨some 131, _, _, _, _, _⟩) (v := ?_) rfl (Or.inl ⟨by rfl, ?_⟩) hS ?_
       rotate_left 1
       · intro w' hB; have hd := (HC.out.to w (by simp)).trans (hB.mono (HC.out.to w (by simp)).size); obtain ⟨x0, x1, x2, x3⟩ := (HR.out.below hd rfl).cellsP (some ⟨bm, 0, none⟩) (pa rr) rfl rfl; obtain ⟨y0, y1, y2, y3⟩ := (HR.out.2.1.below hd rfl).cellsP (pa ml) (pa mr) rfl rfl; clear hd; (go_simp <;> with_reducible rfl)
       try simp only [Act.put, zA, zB, zC]
       refine tk (i := 28) (oi := ⟨some 132, _, _, _, _, _⟩) (v := ?_) rfl (Or.inl ⟨by rfl, ?_⟩) hS ?_
       rotate_left 1
       · intro w' hB; (go_simp <;> with_reducible rfl)
       try simp only [Act.put, zA, zB, zC]
       refine tk (i := 29) (oi := ⟨some 133, _, _, _, _, _⟩) (v := ?_) rfl (Or.inl ⟨by rfl, ?_⟩) hS ?_
       rotate_left 1
       · intro w' hB; have hd := (HC.out.to w (by simp)).trans (hB.mono (HC.out.to w (by simp)).size); obtain ⟨x0, x1, x2, x3⟩ := (HR.out.below hd rfl).cellsP (some ⟨bm, 0, none⟩) (pa rr) rfl rfl; obtain ⟨y0, y1, y2, y3⟩ := (HR.out.2.1.below hd rfl).cellsP (pa ml) (pa mr) rfl rfl; clear hd; (go_simp <;> with_reducible rfl)
       try simp only [Act.put, zA, zB, zC]
       refine tk (i := 30) (oi := ⟨some 134, _, _, _, _, _⟩) (v := ?_) rfl (Or.inl ⟨by rfl, ?_⟩) hS ?_
       rotate_left 1
       · intro w' hB; (go_simp <;> with_reducible rfl)
       try simp only [Act.put, zA, zB, zC]
       refine tk (i := 31) (oi := ⟨some 135, _, _, _, _, _⟩) (v := ?_) rfl (Or.inl ⟨by rfl, ?_⟩) hS ?_
       rotate_left 1
       · intro w' hB; have hd := (HC.out.to w (by simp)).trans (hB.mono (HC.out.to w (by simp)).size); obtain ⟨x0, x1, x2, x3⟩ := (HR.out.below hd rfl).cellsP (some ⟨bm, 0, none⟩) (pa rr) rfl rfl; obtain ⟨y0, y1, y2, y3⟩ := (HR.out.2.1.below hd rfl).cellsP (pa ml) (pa mr) rfl rfl; clear hd; (go_simp <;> with_reducible rfl)
       try simp only [Act.put, zA, zB, zC]
       refine wpAnyH_ready (rs := [7]) (by kernel_rfl) (by simp) (AllReadyH.cons (o := ⟨some 111, _, _, _, _, _⟩) rfl (fun K hK => ?_) AllReadyH.nil)
       go_simp
       refine (pm_nodeS N l ml k v _ (Nat.le_trans hN (HC.out.le hS (by simp))) (HL.out.chain HC.out hS (by simp)) (HR.out.2.1.2.1.chain HC.out hS (by simp)) (by have := HZ.out; simp only [sz] at this ⊢; omega)).mono ?_
       rintro e p2 ⟨b2, hb2, rfl, hA2, hb⟩
       refine hK.out _ _ (hS.trans (hb.mono hS.size)) (fun _ => ?_)
       clear hK K
       have hB := hS.trans (hb.mono hS.size)
       refine wpAnyH_now hB ?_
       clear hS
       have hS := Below.refl p2.heap.size p2
       replace HC := Lib.hid (HC.out.push hB)
       have B2 := Lib.hid hb2
       have A2 := Lib.hid hA2
       clear hb2 hA2
       clear hB hb
       try simp only [Act.put, zA, zB, zC]
       refine wpAnyH_ready (rs := [32]) (by kernel_rfl) (by simp) (AllReadyH.cons (o := ⟨some 136, _, _, _, _, _⟩) rfl (fun K hK => ?_) AllReadyH.nil)
       go_simp
       refine (pm_nodeS N mr rr rk rv _ (Nat.le_trans hN (HC.out.le hS (by simp))) (HR.out.2.1.2.2.chain HC.out hS (by simp)) (HR.out.2.2.chain HC.out hS (by simp)) (by have := HZ.out; simp only [sz] at this ⊢; omega)).mono ?_
       rintro e p3 ⟨b3, hb3, rfl, hA3, hb⟩
       refine hK.out _ _ (hS.trans (hb.mono hS.size)) (fun _ => ?_)
       clear hK K
       have hB := hS.trans (hb.mono hS.size)
       refine wpAnyH_now hB ?_
       clear hS
       have hS := Below.refl p3.heap.size p3
       replace HC := Lib.hid (HC.out.push hB)
       have B3 := Lib.hid hb3
       have A3 := Lib.hid hA3
       clear hb3 hA3
       clear hB hb
       try simp only [Act.put, zA, zB, zC]
       refine wpAnyH_ready (rs := [33]) (by kernel_rfl) (by simp) (AllReadyH.cons (o := ⟨some 137, _, _, _, _, _⟩) rfl (fun K hK => ?_) AllReadyH.nil)
       go_simp
       refine (pm_nodeS N (.node b2 l k v ml) (.node b3 mr rk rv rr) mk mv _ (Nat.le_trans hN (HC.out.le hS (by simp))) (A2.out.chain HC.out hS (by simp)) (A3.out.chain HC.out hS (by simp)) (by have := HZ.out; simp only [sz] at this ⊢; omega)).mono ?_
       rintro e p1 ⟨b1, hb1, rfl, hA1, hb⟩
       refine hK.out _ _ (hS.trans (hb.mono hS.size)) (fun _ => ?_)
       clear hK K
       have hB := hS.trans (hb.mono hS.size)
       refine wpAnyH_now hB ?_
       clear hS
       have hS := Below.refl p1.heap.size p1
       replace HC := Lib.hid (HC.out.push hB)
       have B1 := Lib.hid hb1
       have A1 := Lib.hid hA1
       clear hb1 hA1
       clear hB hb
       try simp only [Act.put, zA, zB, zC]
       refine tk (i := 34) (oi := ⟨some 8, _, _, _, _, _⟩) (v := ?_) rfl (Or.inl ⟨by rfl, ?_⟩) hS ?_
       rotate_left 1
       · intro w' hB; have hd := (HC.out.to w (by simp)).trans (hB.mono (HC.out.to w (by simp)).size); obtain ⟨x0, x1, x2, x3⟩ := (HR.out.below hd rfl).cellsP (some ⟨bm, 0, none⟩) (pa rr) rfl rfl; obtain ⟨y0, y1, y2, y3⟩ := (HR.out.2.1.below hd rfl).cellsP (pa ml) (pa mr) rfl rfl; clear hd; (go_simp <;> with_reducible rfl)
       try simp only [Act.put, zA, zB, zC]
       refine wpAnyH_done (by kernel_rfl) (NoPanic.normal ?_) _
       all_goals
        clear hS
        go_wp2_with fail
        go_ret
        exact ⟨_, .rl h3 h2 B1.out B2.out B3.out, rfl, A1.out, HC.out.to w (by simp)⟩
     · have hi2 : ¬ (ht rr : Int) < (ht rl : Int) := by omega
       obtain ⟨x0, x1, x2, x3⟩ := HR.out.cellsP (pa rl) (pa rr) rfl rfl
       change Calls _ _ #[.pointer (pa l), .string k, .string v, .pointer (some ⟨br, 0, none⟩)] w _
       go_enter Tryz.func100, Tryz.ntmps100
       go_wp2_with fail
       refine (pm_HeightS l _ HL.out).mono ?_
       rintro e w' ⟨rfl, rfl⟩
       go_wp2_with fail
       refine (pm_HeightS (.node br rl rk rv rr) _ HR.out).mono ?_
       rintro e w' ⟨rfl, rfl⟩
       go_wp2_with fail
       refine (pm_HeightS (.node br rl rk rv rr) _ HR.out).mono ?_
       rintro e w' ⟨rfl, rfl⟩
       go_wp2_with fail
       refine (pm_HeightS l _ HL.out).mono ?_
       rintro e w' ⟨rfl, rfl⟩
       go_wp2_with fail
       refine (pm_HeightS rr _ HR.out.2.2).mono ?_
       rintro e w' ⟨rfl, rfl⟩
       go_wp2_with fail
       refine (pm_HeightS rl _ HR.out.2.1).mono ?_
       rintro e w' ⟨rfl, rfl⟩
       go_wp2_with fail
       clear x0 x1 x2 x3
       refine wp_region_noPanic ?_
       refine wp_region_held_drew (S := fun w' => Below w.heap.size w w') (by kernel_rfl) (Below.refl _ _).drew (fun hS => ?_)
       refine tk (i := 0) (oi := ⟨some 138, _, _, _, _, _⟩) (v := ?_) rfl (Or.inl ⟨by rfl, ?_⟩) hS ?_
       rotate_left 1
       · intro w' hB; (go_simp <;> with_reducible rfl)
       try simp only [Act.put, zA, zB, zC]
       refine tk (i := 1) (oi := ⟨some 139, _, _, _, _, _⟩) (v := ?_) rfl (Or.inl ⟨by rfl, ?_⟩) hS ?_
       rotate_left 1
       · intro w' hB; (go_simp <;> with_reducible rfl)
       try simp only [Act.put, zA, zB, zC]
       refine tk (i := 2) (oi := ⟨some 140, _, _, _, _, _⟩) (v := ?_) rfl (Or.inl ⟨by rfl, ?_⟩) hS ?_
       rotate_left 1
       · intro w' hB; (go_simp <;> with_reducible rfl)
       try simp only [Act.put, zA, zB, zC]
       refine tk (i := 3) (oi := ⟨some 141, _, _, _, _, _⟩) (v := ?_) rfl (Or.inl ⟨by rfl, ?_⟩) hS ?_
       rotate_left 1
       · intro w' hB; (go_simp <;> with_reducible rfl)
       try simp only [Act.put, zA, zB, zC]
       refine tk (i := 4) (oi := ⟨some 142, _, _, _, _, _⟩) (v := ?_) rfl (Or.inl ⟨by rfl, ?_⟩) hS ?_
       rotate_left 1
       · intro w' hB; have hd := (HC.out.to w (by simp)).trans (hB.mono (HC.out.to w (by simp)).size); obtain ⟨x0, x1, x2, x3⟩ := (HR.out.below hd rfl).cellsP (pa rl) (pa rr) rfl rfl; clear hd; (go_simp <;> with_reducible rfl)
       try simp only [Act.put, zA, zB, zC]
       refine tk (i := 5) (oi := ⟨some 143, _, _, _, _, _⟩) (v := ?_) rfl (Or.inl ⟨by rfl, ?_⟩) hS ?_
       rotate_left 1
       · intro w' hB; (go_simp <;> with_reducible rfl)
       try simp only [Act.put, zA, zB, zC]
       refine tk (i := 6) (oi := ⟨some 144, _, _, _, _, _⟩) (v := ?_) rfl (Or.inl ⟨by rfl, ?_⟩) hS ?_
       rotate_left 1
       · intro w' hB; have hd := (HC.out.to w (by simp)).trans (hB.mono (HC.out.to w (by simp)).size); obtain ⟨x0, x1, x2, x3⟩ := (HR.out.below hd rfl).cellsP (pa rl) (pa rr) rfl rfl; clear hd; (go_simp <;> with_reducible rfl)
       try simp only [Act.put, zA, zB, zC]
       refine tk (i := 8) (oi := ⟨some 146, _, _, _, _, _⟩) (v := ?_) rfl (Or.inl ⟨by rfl, ?_⟩) hS ?_
       rotate_left 1
       · intro w' hB; (go_simp <;> with_reducible rfl)
       try simp only [Act.put, zA, zB, zC]
       refine tk (i := 9) (oi := ⟨some 147, _, _, _, _, _⟩) (v := ?_) rfl (Or.inl ⟨by rfl, ?_⟩) hS ?_
       rotate_left 1
       · intro w' hB; have hd := (HC.out.to w (by simp)).trans (hB.mono (HC.out.to w (by simp)).size); obtain ⟨x0, x1, x2, x3⟩ := (HR.out.below hd rfl).cellsP (pa rl) (pa rr) rfl rfl; clear hd; (go_simp <;> with_reducible rfl)
       try simp only [Act.put, zA, zB, zC]
       refine tk (i := 10) (oi := ⟨some 148, _, _, _, _, _⟩) (v := ?_) rfl (Or.inl ⟨by rfl, ?_⟩) hS ?_
       rotate_left 1
       · intro w' hB; (go_simp <;> with_reducible rfl)
       try simp only [Act.put, zA, zB, zC]
       refine tk (i := 11) (oi := ⟨some 149, _, _, _, _, _⟩) (v := ?_) rfl (Or.inl ⟨by rfl, ?_⟩) hS ?_
       rotate_left 1
       · intro w' hB; have hd := (HC.out.to w (by simp)).trans (hB.mono (HC.out.to w (by simp)).size); obtain ⟨x0, x1, x2, x3⟩ := (HR.out.below hd rfl).cellsP (pa rl) (pa rr) rfl rfl; clear hd; (go_simp <;> with_reducible rfl)
       try simp only [Act.put, zA, zB, zC]
       refine tk (i := 12) (oi := ⟨some 150, _, _, _, _, _⟩) (v := ?_) rfl (Or.inl ⟨by rfl, ?_⟩) hS ?_
       rotate_left 1
       · intro w' hB; (go_simp <;> with_reducible rfl)
       try simp only [Act.put, zA, zB, zC]
       refine tk (i := 13) (oi := ⟨some 151, _, _, _, _, _⟩) (v := ?_) rfl (Or.inl ⟨by rfl, ?_⟩) hS ?_
       rotate_left 1
       · intro w' hB; have hd := (HC.out.to w (by simp)).trans (hB.mono (HC.out.to w (by simp)).size); obtain ⟨x0, x1, x2, x3⟩ := (HR.out.below hd rfl).cellsP (pa rl) (pa rr) rfl rfl; clear hd; (go_simp <;> with_reducible rfl)
       try simp only [Act.put, zA, zB, zC]
       refine tk (i := 14) (oi := ⟨some 152, _, _, _, _, _⟩) (v := ?_) rfl (Or.inl ⟨by rfl, ?_⟩) hS ?_
       rotate_left 1
       · intro w' hB; (go_simp <;> with_reducible rfl)
       try simp only [Act.put, zA, zB, zC]
       refine tk (i := 15) (oi := ⟨some 153, _, _, _, _, _⟩) (v := ?_) rfl (Or.inl ⟨by rfl, ?_⟩) hS ?_
       rotate_left 1
       · intro w' hB; have hd := (HC.out.to w (by simp)).trans (hB.mono (HC.out.to w (by simp)).size); obtain ⟨x0, x1, x2, x3⟩ := (HR.out.below hd rfl).cellsP (pa rl) (pa rr) rfl rfl; clear hd; (go_simp <;> with_reducible rfl)
       try simp only [Act.put, zA, zB, zC]
       refine tk (i := 16) (oi := ⟨some 154, _, _, _, _, _⟩) (v := ?_) rfl (Or.inl ⟨by rfl, ?_⟩) hS ?_
       rotate_left 1
       · intro w' hB; (go_simp <;> with_reducible rfl)
       try simp only [Act.put, zA, zB, zC]
       refine tk (i := 17) (oi := ⟨some 155, _, _, _, _, _⟩) (v := ?_) rfl (Or.inl ⟨by rfl, ?_⟩) hS ?_
       rotate_left 1
       · intro w' hB; have hd := (HC.out.to w (by simp)).trans (hB.mono (HC.out.to w (by simp)).size); obtain ⟨x0, x1, x2, x3⟩ := (HR.out.below hd rfl).cellsP (pa rl) (pa rr) rfl rfl; clear hd; (go_simp <;> with_reducible rfl)
       try simp only [Act.put, zA, zB, zC]
       refine tk (i := 18) (oi := ⟨some 156, _, _, _, _, _⟩) (v := ?_) rfl (Or.inl ⟨by rfl, ?_⟩) hS ?_
       rotate_left 1
       · intro w' hB; (go_simp <;> with_reducible rfl)
       try simp only [Act.put, zA, zB, zC]
       refine tk (i := 19) (oi := ⟨some 157, _, _, _, _, _⟩) (v := ?_) rfl (Or.inl ⟨by rfl, ?_⟩) hS ?_
       rotate_left 1
       · intro w' hB; have hd := (HC.out.to w (by simp)).trans (hB.mono (HC.out.to w (by simp)).size); obtain ⟨x0, x1, x2, x3⟩ := (HR.out.below hd rfl).cellsP (pa rl) (pa rr) rfl rfl; clear hd; (go_simp <;> with_reducible rfl)
       try simp only [Act.put, zA, zB, zC]
       refine wpAnyH_ready (rs := [7]) (by kernel_rfl) (by simp) (AllReadyH.cons (o := ⟨some 145, _, _, _, _, _⟩) rfl (fun K hK => ?_) AllReadyH.nil)
       go_simp
       refine (pm_nodeS N l rl k v _ (Nat.le_trans hN (HC.out.le hS (by simp))) (HL.out.chain HC.out hS (by simp)) (HR.out.2.1.chain HC.out hS (by simp)) (by have := HZ.out; simp only [sz] at this ⊢; omega)).mono ?_
       rintro e p2 ⟨b2, hb2, rfl, hA2, hb⟩
       refine hK.out _ _ (hS.trans (hb.mono hS.size)) (fun _ => ?_)
       clear hK K
       have hB := hS.trans (hb.mono hS.size)
       refine wpAnyH_now hB ?_
       clear hS
       have hS := Below.refl p2.heap.size p2
       replace HC := Lib.hid (HC.out.push hB)
       have B2 := Lib.hid hb2
       have A2 := Lib.hid hA2
       clear hb2 hA2
       clear hB hb
       try simp only [Act.put, zA, zB, zC]
       refine wpAnyH_ready (rs := [20]) (by kernel_rfl) (by simp) (AllReadyH.cons (o := ⟨some 158, _, _, _, _, _⟩) rfl (fun K hK => ?_) AllReadyH.nil)
       go_simp
       refine (pm_nodeS N (.node b2 l k v rl) rr rk rv _ (Nat.le_trans hN (HC.out.le hS (by simp))) (A2.out.chain HC.out hS (by simp)) (HR.out.2.2.chain HC.out hS (by simp)) (by have := HZ.out; simp only [sz] at this ⊢; omega)).mono ?_
       rintro e p1 ⟨b1, hb1, rfl, hA1, hb⟩
       refine hK.out _ _ (hS.trans (hb.mono hS.size)) (fun _ => ?_)
       clear hK K
       have hB := hS.trans (hb.mono hS.size)
       refine wpAnyH_now hB ?_
       clear hS
       have hS := Below.refl p1.heap.size p1
       replace HC := Lib.hid (HC.out.push hB)
       have B1 := Lib.hid hb1
       have A1 := Lib.hid hA1
       clear hb1 hA1
       clear hB hb
       try simp only [Act.put, zA, zB, zC]
       refine tk (i := 21) (oi := ⟨some 8, _, _, _, _, _⟩) (v := ?_) rfl (Or.inl ⟨by rfl, ?_⟩) hS ?_
       rotate_left 1
       · intro w' hB; have hd := (HC.out.to w (by simp)).trans (hB.mono (HC.out.to w (by simp)).size); obtain ⟨x0, x1, x2, x3⟩ := (HR.out.below hd rfl).cellsP (pa rl) (pa rr) rfl rfl; clear hd; (go_simp <;> with_reducible rfl)
       try simp only [Act.put, zA, zB, zC]
       refine wpAnyH_done (by kernel_rfl) (NoPanic.normal ?_) _
       all_goals
        clear hS
        go_wp2_with fail
        go_ret
        exact ⟨_, .rr h3 (by omega) B1.out B2.out, rfl, A1.out, HC.out.to w (by simp)⟩
   · have hi3 : ¬ ((ht l : Int) + 1) < (ht r : Int) := by omega
     go_enter Tryz.func100, Tryz.ntmps100
     go_wp2_with fail
     refine (pm_HeightS l _ HL.out).mono ?_
     rintro e w' ⟨rfl, rfl⟩
     go_wp2_with fail
     refine (pm_HeightS r _ HR.out).mono ?_
     rintro e w' ⟨rfl, rfl⟩
     go_wp2_with fail
     refine (pm_HeightS r _ HR.out).mono ?_
     rintro e w' ⟨rfl, rfl⟩
     go_wp2_with fail
     refine (pm_HeightS l _ HL.out).mono ?_
     rintro e w' ⟨rfl, rfl⟩
     go_wp2_with fail
     refine (pm_nodeS N l r k v _ hN HL.out HR.out HZ.out).mono ?_
     rintro e p1 ⟨b1, hb1, rfl, hA1, hb⟩
     have B1 := Lib.hid hb1
     have A1 := Lib.hid hA1
     have D1 := Lib.hid hb
     clear hb1 hA1 hb
     go_wp2_with fail
     go_ret
     exact ⟨_, .same (by omega) (by omega) B1.out, rfl, A1.out, D1.out⟩
end Go.Proofs.YtjlliohjeiclaaaGreatDoor
