
/- Walks: a tree's nodes, read and made. -/
import Derived.Test.YtdodkhhlbjamhaaTr
import Derived.Test.YtdodkhhlbjamhaaMem2
import Derived.Test.YtdodkhhlbjamhaaOver
namespace Go.Proofs.Ytdodkhhlbjamhaa
open Go.RowKit Pm
/-- A tree in memory. -/
def AtI (w : World) : Tr Int → Prop
  | .nil => True
  | .node b l k v r => w.heap[b]? = some (.cells #[.pointer (pa l), .pointer (pa r), .string k, .int .i64 v, .int .i64 (ht (.node b l k v r) : Int), .int .i64 (sz (.node b l k v r) : Int)] 77 (0, 0)) ∧ AtI w l ∧ AtI w r
theorem AtI.keep {w w' : World} {t : Tr Int} (h : AtI w t) (hk : ∀ b o, w.heap[b]? = some o → b ∈ blocks t → w'.heap[b]? = some o) : AtI w' t := by
  induction t with
  | nil => trivial
  | node b l k v r ih1 ih2 =>
    obtain ⟨h1, h2, h3⟩ := h
    exact ⟨hk _ _ h1 (by simp [blocks]), ih1 h2 (fun b o hb hm => hk b o hb (by simp [blocks, hm])), ih2 h3 (fun b o hb hm => hk b o hb (by simp [blocks, hm]))⟩
theorem AtI.below {w w' : World} {t : Tr Int} {B : Nat} (h : AtI w t) (hb : Below B w w') (hB : B = w.heap.size) : AtI w' t :=
  h.keep fun b o ho _ => (hb.block b (by rw [hB]; exact (Array.getElem?_eq_some_iff.1 ho).1)).trans ho
theorem AtI.lt {w : World} {t : Tr Int} (h : AtI w t) : ∀ b ∈ blocks t, b < w.heap.size := by
  induction t with
  | nil => intro b hb; simp [blocks] at hb
  | node b l k v r ih1 ih2 =>
    obtain ⟨h1, h2, h3⟩ := h
    intro b' hb
    simp only [blocks, List.mem_append, List.mem_cons] at hb
    rcases hb with hb | rfl | hb
    · exact ih1 h2 b' hb
    · exact (Array.getElem?_eq_some_iff.1 h1).1
    · exact ih2 h3 b' hb
theorem AtI.cells {w : World} {b : Nat} {l r : Tr Int} {k : ByteArray} {v : Int} (h : AtI w (.node b l k v r)) :
    w.cell? ⟨b, 0, none⟩ = some (.pointer (pa l)) ∧ w.cell? ⟨b, 1, none⟩ = some (.pointer (pa r)) ∧ w.cell? ⟨b, 2, none⟩ = some (.string k) ∧ w.cell? ⟨b, 3, none⟩ = some (.int .i64 v) ∧
    w.cell? ⟨b, 4, none⟩ = some (.int .i64 (ht (.node b l k v r) : Int)) ∧ w.cell? ⟨b, 5, none⟩ = some (.int .i64 (sz (.node b l k v r) : Int)) :=
  ⟨cell_of_row _ _ _ _ _ _ h.1, cell_of_row _ _ _ _ _ _ h.1, cell_of_row _ _ _ _ _ _ h.1, cell_of_row _ _ _ _ _ _ h.1, cell_of_row _ _ _ _ _ _ h.1, cell_of_row _ _ _ _ _ _ h.1⟩
theorem AtI.cellsP {w : World} {b : Nat} {l r : Tr Int} {k : ByteArray} {v : Int} (pl pr : Option Addr) (h : AtI w (.node b l k v r)) (e1 : pa l = pl) (e2 : pa r = pr) :
    w.cell? ⟨b, 0, none⟩ = some (.pointer pl) ∧ w.cell? ⟨b, 1, none⟩ = some (.pointer pr) ∧ w.cell? ⟨b, 2, none⟩ = some (.string k) ∧ w.cell? ⟨b, 3, none⟩ = some (.int .i64 v) := by
  subst e1 e2
  obtain ⟨x0, x1, x2, x3, _⟩ := h.cells
  exact ⟨x0, x1, x2, x3⟩
theorem AtI.other {w : World} {t : Tr Int} (h : AtI w t) {X : Nat} {cs : Array Value} {T : TypeId} {fr : Nat × Nat} (hx : w.heap[X]? = some (.cells cs T fr)) (hT : T ≠ 77) : X ∉ blocks t := by
  induction t with
  | nil => simp [blocks]
  | node b l k v r ih1 ih2 =>
    obtain ⟨h1, h2, h3⟩ := h
    simp only [blocks, List.mem_append, List.mem_cons]
    rintro (hm | rfl | hm)
    · exact ih1 h2 hm
    · rw [hx] at h1; cases h1; exact hT rfl
    · exact ih2 h3 hm
theorem AtI.setBox {w : World} {t : Tr Int} (h : AtI w t) {X : Nat} {cs : Array Value} {T : TypeId} {fr : Nat × Nat} (hx : w.heap[X]? = some (.cells cs T fr)) (hT : T ≠ 77) (i : Nat) (u : Value) : AtI (w.setCell ⟨X, i, none⟩ u) t :=
  h.keep fun b o ho hm => (Below.heap_setCell _ _ _ _ (by intro e; have e2 : b = X := e; subst e2; exact h.other hx hT hm)).trans ho
def keyOr : Tr Int → ByteArray
  | .nil => ⟨#[]⟩
  | .node _ _ k _ _ => k
def valOr : Tr Int → Int
  | .nil => 0
  | .node _ _ _ v _ => v
def leftOr : Tr Int → Tr Int
  | .nil => .nil
  | .node _ l _ _ _ => l
def rightOr : Tr Int → Tr Int
  | .nil => .nil
  | .node _ _ _ _ r => r
theorem pm_HeightI (t : Tr Int) (w : World) (h : AtI w t) : Calls Try.prog 56 #[.pointer (pa t)] w fun e w' => e = .returned (.int .i64 (ht t : Int)) ∧ w = w' := by
  cases t with
  | nil =>
    show Calls Try.prog 56 #[.pointer none] w fun e w' => e = .returned (.int .i64 0) ∧ w = w'
    go_enter Try.func56, Try.ntmps56
    go_wp2_with fail
    go_ret
    exact ⟨rfl, rfl⟩
  | node b l k v r =>
    show Calls Try.prog 56 #[.pointer (some ⟨b, 0, none⟩)] w fun e w' => e = .returned (.int .i64 (ht (.node b l k v r) : Int)) ∧ w = w'
    obtain ⟨c0, c1, c2, c3, c4, c5⟩ := h.cells
    clear h
    go_enter Try.func56, Try.ntmps56
    go_wp2_with fail
    go_ret
    exact ⟨rfl, rfl⟩
theorem pm_LenI (t : Tr Int) (w : World) (h : AtI w t) : Calls Try.prog 36 #[.pointer (pa t)] w fun e w' => e = .returned (.int .i64 (sz t : Int)) ∧ w = w' := by
  cases t with
  | nil =>
    show Calls Try.prog 36 #[.pointer none] w fun e w' => e = .returned (.int .i64 0) ∧ w = w'
    go_enter Try.func36, Try.ntmps36
    go_wp2_with fail
    go_ret
    exact ⟨rfl, rfl⟩
  | node b l k v r =>
    show Calls Try.prog 36 #[.pointer (some ⟨b, 0, none⟩)] w fun e w' => e = .returned (.int .i64 (sz (.node b l k v r) : Int)) ∧ w = w'
    obtain ⟨c0, c1, c2, c3, c4, c5⟩ := h.cells
    clear h
    go_enter Try.func36, Try.ntmps36
    go_wp2_with fail
    go_ret
    exact ⟨rfl, rfl⟩
theorem pm_KeyI (t : Tr Int) (w : World) (h : AtI w t) : Calls Try.prog 29 #[.pointer (pa t)] w fun e w' => e = .returned (.string (keyOr t)) ∧ w = w' := by
  cases t with
  | nil =>
    show Calls Try.prog 29 #[.pointer none] w fun e w' => e = .returned (.string ⟨#[]⟩) ∧ w = w'
    go_enter Try.func29, Try.ntmps29
    go_wp2_with fail
    go_ret
    exact ⟨rfl, rfl⟩
  | node b l k v r =>
    show Calls Try.prog 29 #[.pointer (some ⟨b, 0, none⟩)] w fun e w' => e = .returned (.string k) ∧ w = w'
    obtain ⟨c0, c1, c2, c3, c4, c5⟩ := h.cells
    clear h
    go_enter Try.func29, Try.ntmps29
    go_wp2_with fail
    go_ret
    exact ⟨rfl, rfl⟩
theorem pm_ValueI (t : Tr Int) (w : World) (h : AtI w t) : Calls Try.prog 35 #[.pointer (pa t)] w fun e w' => e = .returned (.int .i64 (valOr t)) ∧ w = w' := by
  cases t with
  | nil =>
    show Calls Try.prog 35 #[.pointer none] w fun e w' => e = .returned (.int .i64 0) ∧ w = w'
    go_enter Try.func35, Try.ntmps35
    go_wp2_with fail
    go_ret
    exact ⟨rfl, rfl⟩
  | node b l k v r =>
    show Calls Try.prog 35 #[.pointer (some ⟨b, 0, none⟩)] w fun e w' => e = .returned (.int .i64 v) ∧ w = w'
    obtain ⟨c0, c1, c2, c3, c4, c5⟩ := h.cells
    clear h
    go_enter Try.func35, Try.ntmps35
    go_wp2_with fail
    go_ret
    exact ⟨rfl, rfl⟩
theorem pm_LeftI (t : Tr Int) (w : World) (h : AtI w t) : Calls Try.prog 54 #[.pointer (pa t)] w fun e w' => e = .returned (.pointer (pa (leftOr t))) ∧ w = w' := by
  cases t with
  | nil =>
    show Calls Try.prog 54 #[.pointer none] w fun e w' => e = .returned (.pointer none) ∧ w = w'
    go_enter Try.func54, Try.ntmps54
    go_wp2_with fail
    go_ret
    exact ⟨rfl, rfl⟩
  | node b l k v r =>
    show Calls Try.prog 54 #[.pointer (some ⟨b, 0, none⟩)] w fun e w' => e = .returned (.pointer (pa l)) ∧ w = w'
    obtain ⟨c0, c1, c2, c3, c4, c5⟩ := h.cells
    clear h
    go_enter Try.func54, Try.ntmps54
    go_wp2_with fail
    go_ret
    exact ⟨rfl, rfl⟩
theorem pm_RightI (t : Tr Int) (w : World) (h : AtI w t) : Calls Try.prog 55 #[.pointer (pa t)] w fun e w' => e = .returned (.pointer (pa (rightOr t))) ∧ w = w' := by
  cases t with
  | nil =>
    show Calls Try.prog 55 #[.pointer none] w fun e w' => e = .returned (.pointer none) ∧ w = w'
    go_enter Try.func55, Try.ntmps55
    go_wp2_with fail
    go_ret
    exact ⟨rfl, rfl⟩
  | node b l k v r =>
    show Calls Try.prog 55 #[.pointer (some ⟨b, 0, none⟩)] w fun e w' => e = .returned (.pointer (pa r)) ∧ w = w'
    obtain ⟨c0, c1, c2, c3, c4, c5⟩ := h.cells
    clear h
    go_enter Try.func55, Try.ntmps55
    go_wp2_with fail
    go_ret
    exact ⟨rfl, rfl⟩
/-- A new node. -/
theorem pm_nodeI (N : Nat) (l r : Tr Int) (k : ByteArray) (v : Int) (w : World) (hN : N ≤ w.heap.size) (hl : AtI w l) (hr : AtI w r) (hs : sz l + sz r + 1 ≤ 1099511627776) :
    Calls Try.prog 52 #[.pointer (pa l), .string k, .int .i64 v, .pointer (pa r)] w fun e w' =>
      ∃ b, N ≤ b ∧ e = .returned (.pointer (pa (Tr.node b l k v r))) ∧ AtI w' (.node b l k v r) ∧ Below w.heap.size w w' := by
  have hh1 := ht_le l
  have hh2 := ht_le r
  have HL := Lib.hid hl
  have HR := Lib.hid hr
  clear hl hr
  obtain ⟨n1, hn1⟩ : ∃ n, ht l = n := ⟨_, rfl⟩
  obtain ⟨n2, hn2⟩ : ∃ n, ht r = n := ⟨_, rfl⟩
  obtain ⟨m1, hm1⟩ : ∃ n, sz l = n := ⟨_, rfl⟩
  obtain ⟨m2, hm2⟩ : ∃ n, sz r = n := ⟨_, rfl⟩
  have HN : Hid (ht l = n1 ∧ ht r = n2 ∧ sz l = m1 ∧ sz r = m2) := Lib.hid ⟨hn1, hn2, hm1, hm2⟩
  rw [hn1, hm1] at hh1
  rw [hn2, hm2] at hh2
  rw [hm1, hm2] at hs
  clear hn1 hn2 hm1 hm2
  obtain ⟨mx, hmx⟩ : ∃ mx : Nat, mx = max n1 n2 := ⟨_, rfl⟩
  have hmi : (max (n1 : Int) (n2 : Int)) = (mx : Int) := by omega
  have hmb : mx ≤ 1099511627776 := by omega
  have HM := Lib.hid hmx
  clear hmx
  go_enter Try.func52, Try.ntmps52
  go_wp2_with fail
  refine (pm_HeightI l w HL.out).mono ?_
  rintro e w' ⟨rfl, rfl⟩
  rw [HN.out.1]
  go_wp2_with fail
  refine (pm_HeightI r w HR.out).mono ?_
  rintro e w' ⟨rfl, rfl⟩
  rw [HN.out.2.1]
  go_wp2_with fail
  refine (pm_LenI l w HL.out).mono ?_
  rintro e w' ⟨rfl, rfl⟩
  rw [HN.out.2.2.1]
  go_wp2_with fail
  refine (pm_LenI r w HR.out).mono ?_
  rintro e w' ⟨rfl, rfl⟩
  rw [HN.out.2.2.2]
  go_wp2_with fail
  go_ret
  refine ⟨w.heap.size, hN, rfl, ⟨?_, HL.out.below (below_new w _) rfl, HR.out.below (below_new w _) rfl⟩, below_new w _⟩
  rw [heap_alloc_new]
  simp only [ht, sz, HN.out.1, HN.out.2.1, HN.out.2.2.1, HN.out.2.2.2, ← HM.out]
  rfl
end Go.Proofs.Ytdodkhhlbjamhaa

