/- Words, contracts and walks that the proof stands on (PmW1S). -/
import Derived.Test.YtnpiepimajippaaRA1
import Derived.Test.YtnpiepimajippaaRA2
namespace Go.Proofs.Ytnpiepimajippaa
open Go.RowKit Pm
def AtS (w : World) : Tr ByteArray → Prop
  | .nil => True
  | .node b l k v r => w.heap[b]? = some (.cells #[.pointer (pa l), .pointer (pa r), .string k, .string v, .int .i64 (ht (.node b l k v r) : Int), .int .i64 (sz (.node b l k v r) : Int)] 110 (0, 0)) ∧ AtS w l ∧ AtS w r
theorem AtS.keep {w w' : World} {t : Tr ByteArray} (h : AtS w t) (hk : ∀ b o, w.heap[b]? = some o → b ∈ blocks t → w'.heap[b]? = some o) : AtS w' t := by
  induction t with
  | nil => trivial
  | node b l k v r ih1 ih2 =>
    obtain ⟨h1, h2, h3⟩ := h
    exact ⟨hk _ _ h1 (by simp [blocks]), ih1 h2 (fun b o hb hm => hk b o hb (by simp [blocks, hm])), ih2 h3 (fun b o hb hm => hk b o hb (by simp [blocks, hm]))⟩
theorem AtS.below {w w' : World} {t : Tr ByteArray} {B : Nat} (h : AtS w t) (hb : Below B w w') (hB : B = w.heap.size) : AtS w' t :=
  h.keep fun b o ho _ => (hb.block b (by rw [hB]; exact (Array.getElem?_eq_some_iff.1 ho).1)).trans ho
theorem AtS.lt {w : World} {t : Tr ByteArray} (h : AtS w t) : ∀ b ∈ blocks t, b < w.heap.size := by
  induction t with
  | nil => intro b hb; simp [blocks] at hb
  | node b l k v r ih1 ih2 =>
    obtain ⟨h1, h2, h3⟩ := h
    intro b' hb
    simp only [blocks, List.mem_append, List.mem_cons] at hb
    rcases hb with hb | rfl | hb
    · exact ih1 h2 b' hb
    · exact (Array.getElem?_eq_some_iff.1 h1).1
    · exact ih2 h3 b' hb
theorem AtS.cells {w : World} {b : Nat} {l r : Tr ByteArray} {k : ByteArray} {v : ByteArray} (h : AtS w (.node b l k v r)) :
    w.cell? ⟨b, 0, none⟩ = some (.pointer (pa l)) ∧ w.cell? ⟨b, 1, none⟩ = some (.pointer (pa r)) ∧ w.cell? ⟨b, 2, none⟩ = some (.string k) ∧ w.cell? ⟨b, 3, none⟩ = some (.string v) ∧
    w.cell? ⟨b, 4, none⟩ = some (.int .i64 (ht (.node b l k v r) : Int)) ∧ w.cell? ⟨b, 5, none⟩ = some (.int .i64 (sz (.node b l k v r) : Int)) :=
  ⟨cell_of_row _ _ _ _ _ _ h.1, cell_of_row _ _ _ _ _ _ h.1, cell_of_row _ _ _ _ _ _ h.1, cell_of_row _ _ _ _ _ _ h.1, cell_of_row _ _ _ _ _ _ h.1, cell_of_row _ _ _ _ _ _ h.1⟩
theorem AtS.cellsP {w : World} {b : Nat} {l r : Tr ByteArray} {k : ByteArray} {v : ByteArray} (pl pr : Option Addr) (h : AtS w (.node b l k v r)) (e1 : pa l = pl) (e2 : pa r = pr) :
    w.cell? ⟨b, 0, none⟩ = some (.pointer pl) ∧ w.cell? ⟨b, 1, none⟩ = some (.pointer pr) ∧ w.cell? ⟨b, 2, none⟩ = some (.string k) ∧ w.cell? ⟨b, 3, none⟩ = some (.string v) := by
  subst e1 e2
  obtain ⟨x0, x1, x2, x3, _⟩ := h.cells
  exact ⟨x0, x1, x2, x3⟩
theorem AtS.other {w : World} {t : Tr ByteArray} (h : AtS w t) {X : Nat} {cs : Array Value} {T : TypeId} {fr : Nat × Nat} (hx : w.heap[X]? = some (.cells cs T fr)) (hT : T ≠ 110) : X ∉ blocks t := by
  induction t with
  | nil => simp [blocks]
  | node b l k v r ih1 ih2 =>
    obtain ⟨h1, h2, h3⟩ := h
    simp only [blocks, List.mem_append, List.mem_cons]
    rintro (hm | rfl | hm)
    · exact ih1 h2 hm
    · rw [hx] at h1; cases h1; exact hT rfl
    · exact ih2 h3 hm
theorem AtS.setBox {w : World} {t : Tr ByteArray} (h : AtS w t) {X : Nat} {cs : Array Value} {T : TypeId} {fr : Nat × Nat} (hx : w.heap[X]? = some (.cells cs T fr)) (hT : T ≠ 110) (i : Nat) (u : Value) : AtS (w.setCell ⟨X, i, none⟩ u) t :=
  h.keep fun b o ho hm => (Below.heap_setCell _ _ _ _ (by intro e; have e2 : b = X := e; subst e2; exact h.other hx hT hm)).trans ho
def keyOr : Tr ByteArray → ByteArray
  | .nil => ⟨#[]⟩
  | .node _ _ k _ _ => k
def valOr : Tr ByteArray → ByteArray
  | .nil => (⟨#[]⟩ : ByteArray)
  | .node _ _ _ v _ => v
def leftOr : Tr ByteArray → Tr ByteArray
  | .nil => .nil
  | .node _ l _ _ _ => l
def rightOr : Tr ByteArray → Tr ByteArray
  | .nil => .nil
  | .node _ _ _ _ r => r
theorem pm_HeightS (t : Tr ByteArray) (w : World) (h : AtS w t) : Calls Try.prog 151 #[.pointer (pa t)] w fun e w' => e = .returned (.int .i64 (ht t : Int)) ∧ w = w' := by
  cases t with
  | nil =>
    show Calls Try.prog 151 #[.pointer none] w fun e w' => e = .returned (.int .i64 0) ∧ w = w'
    go_enter Try.func151, Try.ntmps151
    go_wp2_with fail
    go_ret
    exact ⟨rfl, rfl⟩
  | node b l k v r =>
    show Calls Try.prog 151 #[.pointer (some ⟨b, 0, none⟩)] w fun e w' => e = .returned (.int .i64 (ht (.node b l k v r) : Int)) ∧ w = w'
    obtain ⟨c0, c1, c2, c3, c4, c5⟩ := h.cells
    clear h
    go_enter Try.func151, Try.ntmps151
    go_wp2_with fail
    go_ret
    exact ⟨rfl, rfl⟩
theorem pm_LenS (t : Tr ByteArray) (w : World) (h : AtS w t) : Calls Try.prog 90 #[.pointer (pa t)] w fun e w' => e = .returned (.int .i64 (sz t : Int)) ∧ w = w' := by
  cases t with
  | nil =>
    show Calls Try.prog 90 #[.pointer none] w fun e w' => e = .returned (.int .i64 0) ∧ w = w'
    go_enter Try.func90, Try.ntmps90
    go_wp2_with fail
    go_ret
    exact ⟨rfl, rfl⟩
  | node b l k v r =>
    show Calls Try.prog 90 #[.pointer (some ⟨b, 0, none⟩)] w fun e w' => e = .returned (.int .i64 (sz (.node b l k v r) : Int)) ∧ w = w'
    obtain ⟨c0, c1, c2, c3, c4, c5⟩ := h.cells
    clear h
    go_enter Try.func90, Try.ntmps90
    go_wp2_with fail
    go_ret
    exact ⟨rfl, rfl⟩
theorem pm_KeyS (t : Tr ByteArray) (w : World) (h : AtS w t) : Calls Try.prog 142 #[.pointer (pa t)] w fun e w' => e = .returned (.string (keyOr t)) ∧ w = w' := by
  cases t with
  | nil =>
    show Calls Try.prog 142 #[.pointer none] w fun e w' => e = .returned (.string ⟨#[]⟩) ∧ w = w'
    go_enter Try.func142, Try.ntmps142
    go_wp2_with fail
    go_ret
    exact ⟨rfl, rfl⟩
  | node b l k v r =>
    show Calls Try.prog 142 #[.pointer (some ⟨b, 0, none⟩)] w fun e w' => e = .returned (.string k) ∧ w = w'
    obtain ⟨c0, c1, c2, c3, c4, c5⟩ := h.cells
    clear h
    go_enter Try.func142, Try.ntmps142
    go_wp2_with fail
    go_ret
    exact ⟨rfl, rfl⟩
theorem pm_ValueS (t : Tr ByteArray) (w : World) (h : AtS w t) : Calls Try.prog 106 #[.pointer (pa t)] w fun e w' => e = .returned (.string (valOr t)) ∧ w = w' := by
  cases t with
  | nil =>
    show Calls Try.prog 106 #[.pointer none] w fun e w' => e = .returned (.string (⟨#[]⟩ : ByteArray)) ∧ w = w'
    go_enter Try.func106, Try.ntmps106
    go_wp2_with fail
    go_ret
    exact ⟨rfl, rfl⟩
  | node b l k v r =>
    show Calls Try.prog 106 #[.pointer (some ⟨b, 0, none⟩)] w fun e w' => e = .returned (.string v) ∧ w = w'
    obtain ⟨c0, c1, c2, c3, c4, c5⟩ := h.cells
    clear h
    go_enter Try.func106, Try.ntmps106
    go_wp2_with fail
    go_ret
    exact ⟨rfl, rfl⟩
theorem pm_LeftS (t : Tr ByteArray) (w : World) (h : AtS w t) : Calls Try.prog 164 #[.pointer (pa t)] w fun e w' => e = .returned (.pointer (pa (leftOr t))) ∧ w = w' := by
  cases t with
  | nil =>
    show Calls Try.prog 164 #[.pointer none] w fun e w' => e = .returned (.pointer none) ∧ w = w'
    go_enter Try.func164, Try.ntmps164
    go_wp2_with fail
    go_ret
    exact ⟨rfl, rfl⟩
  | node b l k v r =>
    show Calls Try.prog 164 #[.pointer (some ⟨b, 0, none⟩)] w fun e w' => e = .returned (.pointer (pa l)) ∧ w = w'
    obtain ⟨c0, c1, c2, c3, c4, c5⟩ := h.cells
    clear h
    go_enter Try.func164, Try.ntmps164
    go_wp2_with fail
    go_ret
    exact ⟨rfl, rfl⟩
theorem pm_RightS (t : Tr ByteArray) (w : World) (h : AtS w t) : Calls Try.prog 122 #[.pointer (pa t)] w fun e w' => e = .returned (.pointer (pa (rightOr t))) ∧ w = w' := by
  cases t with
  | nil =>
    show Calls Try.prog 122 #[.pointer none] w fun e w' => e = .returned (.pointer none) ∧ w = w'
    go_enter Try.func122, Try.ntmps122
    go_wp2_with fail
    go_ret
    exact ⟨rfl, rfl⟩
  | node b l k v r =>
    show Calls Try.prog 122 #[.pointer (some ⟨b, 0, none⟩)] w fun e w' => e = .returned (.pointer (pa r)) ∧ w = w'
    obtain ⟨c0, c1, c2, c3, c4, c5⟩ := h.cells
    clear h
    go_enter Try.func122, Try.ntmps122
    go_wp2_with fail
    go_ret
    exact ⟨rfl, rfl⟩
theorem pm_nodeS (N : Nat) (l r : Tr ByteArray) (k : ByteArray) (v : ByteArray) (w : World) (hN : N ≤ w.heap.size) (hl : AtS w l) (hr : AtS w r) (hs : sz l + sz r + 1 ≤ 1099511627776) :
    Calls Try.prog 130 #[.pointer (pa l), .string k, .string v, .pointer (pa r)] w fun e w' =>
      ∃ b, N ≤ b ∧ e = .returned (.pointer (pa (Tr.node b l k v r))) ∧ AtS w' (.node b l k v r) ∧ Below w.heap.size w w' := by
  have hh1 := ht_le l
  have hh2 := ht_le r
  have HL := Lib.hid hl
  have HR := Lib.hid hr
  clear hl hr
  obtain ⟨n1, hn1⟩ : ∃ n, ht l = n := ⟨_, rfl⟩
  obtain ⟨n2, hn2⟩ : ∃ n, ht r = n := ⟨_, rfl⟩
  obtain ⟨m1, hm1⟩ : ∃ n, sz l = n := ⟨_, rfl⟩
  obtain ⟨m2, hm2⟩ : ∃ n, sz r = n := ⟨_, rfl⟩
  have HN : Hid (ht l = n1 ∧ ht r = n2 ∧ sz l = m1 ∧ sz r = m2) := Lib.hid ⟨hn1, hn2, hm1, hm2⟩
  rw [hn1, hm1] at hh1
  rw [hn2, hm2] at hh2
  rw [hm1, hm2] at hs
  clear hn1 hn2 hm1 hm2
  obtain ⟨mx, hmx⟩ : ∃ mx : Nat, mx = max n1 n2 := ⟨_, rfl⟩
  have hmi : (max (n1 : Int) (n2 : Int)) = (mx : Int) := by omega
  have hmb : mx ≤ 1099511627776 := by omega
  have HM := Lib.hid hmx
  clear hmx
  go_enter Try.func130, Try.ntmps130
  go_wp2_with fail
  refine (pm_HeightS l w HL.out).mono ?_
  rintro e w' ⟨rfl, rfl⟩
  rw [HN.out.1]
  go_wp2_with fail
  refine (pm_HeightS r w HR.out).mono ?_
  rintro e w' ⟨rfl, rfl⟩
  rw [HN.out.2.1]
  go_wp2_with fail
  refine (pm_LenS l w HL.out).mono ?_
  rintro e w' ⟨rfl, rfl⟩
  rw [HN.out.2.2.1]
  go_wp2_with fail
  refine (pm_LenS r w HR.out).mono ?_
  rintro e w' ⟨rfl, rfl⟩
  rw [HN.out.2.2.2]
  go_wp2_with fail
  go_ret
  refine ⟨w.heap.size, hN, rfl, ⟨?_, HL.out.below (below_new w _) rfl, HR.out.below (below_new w _) rfl⟩, below_new w _⟩
  rw [heap_alloc_new]
  simp only [ht, sz, HN.out.1, HN.out.2.1, HN.out.2.2.1, HN.out.2.2.2, ← HM.out]
  rfl
end Go.Proofs.Ytnpiepimajippaa
