/- Words, contracts and walks that the proof stands on (KyT EvQ PmW1S). -/
import Derived.Test.YtnpiepimajippaaRI1
import Derived.Test.YtnpiepimajippaaRI4
import Derived.Test.YtnpiepimajippaaRI5
namespace Go.Proofs.Ytnpiepimajippaa
open Go.RowKit St
def txV (l : List ByteArray) : List Value := l.map Value.string
theorem tx_get {w : World} {a : Option Addr} {l : List ByteArray} (h : CellsAt w a (txV l)) (k : Nat) (hk : k < l.length) : ∃ b off, a = some ⟨b, off, none⟩ ∧ w.cell? ⟨b, off + k, none⟩ = some (.string l[k]) := h.get k _ (by simp [txV, hk])
set_option maxRecDepth 100000 in
set_option maxHeartbeats 2000000 in
theorem ref9_SameTexts (l m : List ByteArray) (a b : Option Addr) (n1 n2 c1 c2 : Nat) (w : World) (hl : CellsAt w a (txV l)) (hm : CellsAt w b (txV m)) (hn1 : n1 = l.length) (hn2 : n2 = m.length) (hb : n1 ≤ 9223372036854775807) :
   Calls Try.prog 86 #[.slice a n1 c1, .slice b n2 c2] w fun e w' => e = .returned (.bool (decide (l = m))) ∧ Below w.heap.size w w' := by
 have HL := Lib.hid hl
 have HM := Lib.hid hm
 clear hl hm
 go_enter Try.func86, Try.ntmps86
 by_cases hlen : n1 = n2
 · subst hlen
   have hN : Hid (l.length = m.length) := Lib.hid (by omega)
   have E : Hid (l.take n1 = m.take n1 → decide (l = m) = true) := Lib.hid (fun h => eq_all hN.out (by rw [← hn1]; exact h))
   have F : Hid (∀ k (h1 : k < l.length) (h2 : k < m.length), l[k] ≠ m[k] → decide (l = m) = false) := Lib.hid (fun k h1 h2 h => ne_at h1 h2 h)
   generalize decide (l = m) = res at *
   go_wp2_with fail
   go_loopw [5] (fun i wr => ∃ k : Nat, k ≤ n1 ∧ i = .int .i64 (k : Int) ∧ Hid (l.take k = m.take k) ∧ Hid (Below w.heap.size w wr)) (fun i _ => n1 - (intOf i).toNat)
   case atStart => exact ⟨0, Nat.zero_le _, rfl, Lib.hid rfl, Lib.hid (Below.refl _ _)⟩
   case round =>
     obtain ⟨k, hk, rfl, HT, HB⟩ := hrel
     by_cases hlt : k < n1
     · have hk1 : k < l.length := by omega
       have hk2 : k < m.length := by omega
       obtain ⟨ba, oa, rfl, ca⟩ := tx_get (HL.out.below HB.out rfl) k hk1
       obtain ⟨bb, ob, rfl, cb⟩ := tx_get (HM.out.below HB.out rfl) k hk2
       have G1 : Hid (l[k] ≠ m[k] → res = false) := Lib.hid (F.out k hk1 hk2)
       have G2 : Hid (l[k] = m[k] → l.take (k + 1) = m.take (k + 1)) := Lib.hid (take_eq hk1 hk2 HT.out)
       generalize l[k] = x at *
       generalize m[k] = y at *
       have hki : (k : Int) < (n1 : Int) := by omega
       by_cases hxy : x = y
       · have H := Lib.hid (G2.out hxy)
         have hd : (x.toList == y.toList) = true := by rw [Pm.eq_iff]; simpa using hxy
         clear hxy
         go_wp2_with fail
         go_quiet (fail)
         go_wp2_with fail
         refine ⟨⟨k + 1, by omega, by go_num, H, Lib.hid (below_drews HB.out _)⟩, by simp [intOf]; omega⟩
       · have hr := Lib.hid (G1.out hxy)
         have hd : (x.toList == y.toList) = false := by rw [Pm.eq_iff]; simpa using hxy
         clear hxy
         go_wp2_with fail
         go_quiet (fail)
         go_wp2_with fail
         go_ret
         rw [hr.out]
         exact ⟨rfl, below_drews HB.out _⟩
     · obtain rfl : k = n1 := by omega
       have hr := Lib.hid (E.out HT.out)
       go_wp2_with fail
       go_ret
       rw [hr.out]
       exact ⟨rfl, HB.out⟩
 · have hr : Hid (decide (l = m) = false) := Lib.hid (by rw [decide_eq_false_iff_not]; rintro rfl; omega)
   have hne : ((n1 : Int) == (n2 : Int)) = false := by simp; omega
   have hne' : ¬ (n1 : Int) = (n2 : Int) := by omega
   generalize decide (l = m) = res at *
   go_wp2_with fail
   go_ret
   rw [hr.out]
   exact ⟨rfl, Below.refl _ _⟩
end Go.Proofs.Ytnpiepimajippaa
namespace Go.Proofs.Ytnpiepimajippaa
namespace St
open Pm
def putF (L : List Ev) : List (ByteArray × ByteArray) := L.foldl (fun m x => ins (keyB x.1.st) x.2 m) []
theorem putF_snoc (L : List Ev) (x : Ev) : putF (L ++ [x]) = ins (keyB x.1.st) x.2 (putF L) := by unfold putF; rw [List.foldl_append]; rfl
theorem putF_sort {L : List Ev} (h : mayV L = true) : (sortE (L.map toE)).map enc = putF L := by
 rw [(sortE_srt (mayV_E h)).2, List.foldl_map]
 rfl
theorem putF_srt {L : List Ev} (h : mayV L = true) : Srt (putF L) := by
 rw [← putF_sort h]
 exact (sortE_srt (mayV_E h)).1
theorem sortE_mem {l : List El} {x : El} : x ∈ sortE l ↔ x ∈ l := by
 have : ∀ (l o : List El), x ∈ (l.foldl (fun out x => insE x out) o) ↔ x ∈ l ∨ x ∈ o := by
   intro l
   induction l with
   | nil => intro o; simp
   | cons y l ih =>
     intro o
     rw [List.foldl_cons, ih, insE_mem, List.mem_cons]
     constructor
     · rintro (h | h | h)
       · exact .inl (.inr h)
       · exact .inl (.inl h)
       · exact .inr h
     · rintro ((h | h) | h)
       · exact .inr (.inl h)
       · exact .inl h
       · exact .inr (.inr h)
 have := this l []
 unfold sortE
 simpa using this
theorem key_in {L : List Ev} (h : mayV L = true) {x : Ev} (hx : x.1.ok = true) : (∃ p ∈ putF L, p.1 = keyB x.1.st) ↔ ∃ y ∈ L, y.1 = x.1 := by
 have ho := (mayV_iff.1 h).1
 rw [← putF_sort h]
 constructor
 · rintro ⟨p, hp, e⟩
   obtain ⟨z, hz, rfl⟩ := List.mem_map.1 hp
   obtain ⟨y, hy, rfl⟩ := List.mem_map.1 (sortE_mem.1 hz)
   have oy := (okV_iff.1 (ho y hy)).1
   exact ⟨y, hy, st_inj oy hx (keyB_inj (Sv.ok_st oy).1 (Sv.ok_st hx).1 e)⟩
 · rintro ⟨y, hy, e⟩
   exact ⟨enc (toE y), List.mem_map.2 ⟨_, sortE_mem.2 (List.mem_map.2 ⟨y, hy, rfl⟩), rfl⟩, by show keyB y.1.st = _; rw [e]⟩
end St
end Go.Proofs.Ytnpiepimajippaa
namespace Go.Proofs.Ytnpiepimajippaa
open Go.RowKit Pm
def AtS (w : World) : Tr ByteArray → Prop
 | .nil => True
 | .node b l k v r => w.heap[b]? = some (.cells #[.pointer (pa l), .pointer (pa r), .string k, .string v, .int .i64 (ht (.node b l k v r) : Int), .int .i64 (sz (.node b l k v r) : Int)] 110 (0, 0)) ∧ AtS w l ∧ AtS w r
theorem AtS.keep {w w' : World} {t : Tr ByteArray} (h : AtS w t) (hk : ∀ b o, w.heap[b]? = some o → b ∈ blocks t → w'.heap[b]? = some o) : AtS w' t := by
 induction t with
 | nil => trivial
 | node b l k v r ih1 ih2 =>
   obtain ⟨h1, h2, h3⟩ := h
   exact ⟨hk _ _ h1 (by simp [blocks]), ih1 h2 (fun b o hb hm => hk b o hb (by simp [blocks, hm])), ih2 h3 (fun b o hb hm => hk b o hb (by simp [blocks, hm]))⟩
theorem AtS.below {w w' : World} {t : Tr ByteArray} {B : Nat} (h : AtS w t) (hb : Below B w w') (hB : B = w.heap.size) : AtS w' t :=
 h.keep fun b o ho _ => (hb.block b (by rw [hB]; exact (Array.getElem?_eq_some_iff.1 ho).1)).trans ho
theorem AtS.lt {w : World} {t : Tr ByteArray} (h : AtS w t) : ∀ b ∈ blocks t, b < w.heap.size := by
 induction t with
 | nil => intro b hb; simp [blocks] at hb
 | node b l k v r ih1 ih2 =>
   obtain ⟨h1, h2, h3⟩ := h
   intro b' hb
   simp only [blocks, List.mem_append, List.mem_cons] at hb
   rcases hb with hb | rfl | hb
   · exact ih1 h2 b' hb
   · exact (Array.getElem?_eq_some_iff.1 h1).1
   · exact ih2 h3 b' hb
theorem AtS.cells {w : World} {b : Nat} {l r : Tr ByteArray} {k : ByteArray} {v : ByteArray} (h : AtS w (.node b l k v r)) :
   w.cell? ⟨b, 0, none⟩ = some (.pointer (pa l)) ∧ w.cell? ⟨b, 1, none⟩ = some (.pointer (pa r)) ∧ w.cell? ⟨b, 2, none⟩ = some (.string k) ∧ w.cell? ⟨b, 3, none⟩ = some (.string v) ∧
   w.cell? ⟨b, 4, none⟩ = some (.int .i64 (ht (.node b l k v r) : Int)) ∧ w.cell? ⟨b, 5, none⟩ = some (.int .i64 (sz (.node b l k v r) : Int)) :=
 ⟨cell_of_row _ _ _ _ _ _ h.1, cell_of_row _ _ _ _ _ _ h.1, cell_of_row _ _ _ _ _ _ h.1, cell_of_row _ _ _ _ _ _ h.1, cell_of_row _ _ _ _ _ _ h.1, cell_of_row _ _ _ _ _ _ h.1⟩
theorem AtS.cellsP {w : World} {b : Nat} {l r : Tr ByteArray} {k : ByteArray} {v : ByteArray} (pl pr : Option Addr) (h : AtS w (.node b l k v r)) (e1 : pa l = pl) (e2 : pa r = pr) :
   w.cell? ⟨b, 0, none⟩ = some (.pointer pl) ∧ w.cell? ⟨b, 1, none⟩ = some (.pointer pr) ∧ w.cell? ⟨b, 2, none⟩ = some (.string k) ∧ w.cell? ⟨b, 3, none⟩ = some (.string v) := by
 subst e1 e2
 obtain ⟨x0, x1, x2, x3, _⟩ := h.cells
 exact ⟨x0, x1, x2, x3⟩
theorem AtS.other {w : World} {t : Tr ByteArray} (h : AtS w t) {X : Nat} {cs : Array Value} {T : TypeId} {fr : Nat × Nat} (hx : w.heap[X]? = some (.cells cs T fr)) (hT : T ≠ 110) : X ∉ blocks t := by
 induction t with
 | nil => simp [blocks]
 | node b l k v r ih1 ih2 =>
   obtain ⟨h1, h2, h3⟩ := h
   simp only [blocks, List.mem_append, List.mem_cons]
   rintro (hm | rfl | hm)
   · exact ih1 h2 hm
   · rw [hx] at h1; cases h1; exact hT rfl
   · exact ih2 h3 hm
theorem AtS.setBox {w : World} {t : Tr ByteArray} (h : AtS w t) {X : Nat} {cs : Array Value} {T : TypeId} {fr : Nat × Nat} (hx : w.heap[X]? = some (.cells cs T fr)) (hT : T ≠ 110) (i : Nat) (u : Value) : AtS (w.setCell ⟨X, i, none⟩ u) t :=
 h.keep fun b o ho hm => (Below.heap_setCell _ _ _ _ (by intro e; have e2 : b = X := e; subst e2; exact h.other hx hT hm)).trans ho
def keyOr : Tr ByteArray → ByteArray
 | .nil => ⟨#[]⟩
 | .node _ _ k _ _ => k
def valOr : Tr ByteArray → ByteArray
 | .nil => (⟨#[]⟩ : ByteArray)
 | .node _ _ _ v _ => v
def rightOr : Tr ByteArray → Tr ByteArray
 | .nil => .nil
 | .node _ _ _ _ r => r
theorem pm_HeightS (t : Tr ByteArray) (w : World) (h : AtS w t) : Calls Try.prog 151 #[.pointer (pa t)] w fun e w' => e = .returned (.int .i64 (ht t : Int)) ∧ w = w' := by
 cases t with
 | nil =>
   show Calls Try.prog 151 #[.pointer none] w fun e w' => e = .returned (.int .i64 0) ∧ w = w'
   go_enter Try.func151, Try.ntmps151
   go_wp2_with fail
   go_ret
   exact ⟨rfl, rfl⟩
 | node b l k v r =>
   show Calls Try.prog 151 #[.pointer (some ⟨b, 0, none⟩)] w fun e w' => e = .returned (.int .i64 (ht (.node b l k v r) : Int)) ∧ w = w'
   obtain ⟨c0, c1, c2, c3, c4, c5⟩ := h.cells
   clear h
   go_enter Try.func151, Try.ntmps151
   go_wp2_with fail
   go_ret
   exact ⟨rfl, rfl⟩
theorem pm_LenS (t : Tr ByteArray) (w : World) (h : AtS w t) : Calls Try.prog 90 #[.pointer (pa t)] w fun e w' => e = .returned (.int .i64 (sz t : Int)) ∧ w = w' := by
 cases t with
 | nil =>
   show Calls Try.prog 90 #[.pointer none] w fun e w' => e = .returned (.int .i64 0) ∧ w = w'
   go_enter Try.func90, Try.ntmps90
   go_wp2_with fail
   go_ret
   exact ⟨rfl, rfl⟩
 | node b l k v r =>
   show Calls Try.prog 90 #[.pointer (some ⟨b, 0, none⟩)] w fun e w' => e = .returned (.int .i64 (sz (.node b l k v r) : Int)) ∧ w = w'
   obtain ⟨c0, c1, c2, c3, c4, c5⟩ := h.cells
   clear h
   go_enter Try.func90, Try.ntmps90
   go_wp2_with fail
   go_ret
   exact ⟨rfl, rfl⟩
theorem pm_KeyS (t : Tr ByteArray) (w : World) (h : AtS w t) : Calls Try.prog 142 #[.pointer (pa t)] w fun e w' => e = .returned (.string (keyOr t)) ∧ w = w' := by
 cases t with
 | nil =>
   show Calls Try.prog 142 #[.pointer none] w fun e w' => e = .returned (.string ⟨#[]⟩) ∧ w = w'
   go_enter Try.func142, Try.ntmps142
   go_wp2_with fail
   go_ret
   exact ⟨rfl, rfl⟩
 | node b l k v r =>
   show Calls Try.prog 142 #[.pointer (some ⟨b, 0, none⟩)] w fun e w' => e = .returned (.string k) ∧ w = w'
   obtain ⟨c0, c1, c2, c3, c4, c5⟩ := h.cells
   clear h
   go_enter Try.func142, Try.ntmps142
   go_wp2_with fail
   go_ret
   exact ⟨rfl, rfl⟩
theorem pm_ValueS (t : Tr ByteArray) (w : World) (h : AtS w t) : Calls Try.prog 106 #[.pointer (pa t)] w fun e w' => e = .returned (.string (valOr t)) ∧ w = w' := by
 cases t with
 | nil =>
   show Calls Try.prog 106 #[.pointer none] w fun e w' => e = .returned (.string (⟨#[]⟩ : ByteArray)) ∧ w = w'
   go_enter Try.func106, Try.ntmps106
   go_wp2_with fail
   go_ret
   exact ⟨rfl, rfl⟩
 | node b l k v r =>
   show Calls Try.prog 106 #[.pointer (some ⟨b, 0, none⟩)] w fun e w' => e = .returned (.string v) ∧ w = w'
   obtain ⟨c0, c1, c2, c3, c4, c5⟩ := h.cells
   clear h
   go_enter Try.func106, Try.ntmps106
   go_wp2_with fail
   go_ret
   exact ⟨rfl, rfl⟩
theorem pm_RightS (t : Tr ByteArray) (w : World) (h : AtS w t) : Calls Try.prog 122 #[.pointer (pa t)] w fun e w' => e = .returned (.pointer (pa (rightOr t))) ∧ w = w' := by
 cases t with
 | nil =>
   show Calls Try.prog 122 #[.pointer none] w fun e w' => e = .returned (.pointer none) ∧ w = w'
   go_enter Try.func122, Try.ntmps122
   go_wp2_with fail
   go_ret
   exact ⟨rfl, rfl⟩
 | node b l k v r =>
   show Calls Try.prog 122 #[.pointer (some ⟨b, 0, none⟩)] w fun e w' => e = .returned (.pointer (pa r)) ∧ w = w'
   obtain ⟨c0, c1, c2, c3, c4, c5⟩ := h.cells
   clear h
   go_enter Try.func122, Try.ntmps122
   go_wp2_with fail
   go_ret
   exact ⟨rfl, rfl⟩
theorem pm_nodeS (N : Nat) (l r : Tr ByteArray) (k : ByteArray) (v : ByteArray) (w : World) (hN : N ≤ w.heap.size) (hl : AtS w l) (hr : AtS w r) (hs : sz l + sz r + 1 ≤ 1099511627776) :
   Calls Try.prog 130 #[.pointer (pa l), .string k, .string v, .pointer (pa r)] w fun e w' =>
     ∃ b, N ≤ b ∧ e = .returned (.pointer (pa (Tr.node b l k v r))) ∧ AtS w' (.node b l k v r) ∧ Below w.heap.size w w' := by
 have hh1 := ht_le l
 have hh2 := ht_le r
 have HL := Lib.hid hl
 have HR := Lib.hid hr
 clear hl hr
 obtain ⟨n1, hn1⟩ : ∃ n, ht l = n := ⟨_, rfl⟩
 obtain ⟨n2, hn2⟩ : ∃ n, ht r = n := ⟨_, rfl⟩
 obtain ⟨m1, hm1⟩ : ∃ n, sz l = n := ⟨_, rfl⟩
 obtain ⟨m2, hm2⟩ : ∃ n, sz r = n := ⟨_, rfl⟩
 have HN : Hid (ht l = n1 ∧ ht r = n2 ∧ sz l = m1 ∧ sz r = m2) := Lib.hid ⟨hn1, hn2, hm1, hm2⟩
 rw [hn1, hm1] at hh1
 rw [hn2, hm2] at hh2
 rw [hm1, hm2] at hs
 clear hn1 hn2 hm1 hm2
 obtain ⟨mx, hmx⟩ : ∃ mx : Nat, mx = max n1 n2 := ⟨_, rfl⟩
 have hmi : (max (n1 : Int) (n2 : Int)) = (mx : Int) := by omega
 have hmb : mx ≤ 1099511627776 := by omega
 have HM := Lib.hid hmx
 clear hmx
 go_enter Try.func130, Try.ntmps130
 go_wp2_with fail
 refine (pm_HeightS l w HL.out).mono ?_
 rintro e w' ⟨rfl, rfl⟩
 rw [HN.out.1]
 go_wp2_with fail
 refine (pm_HeightS r w HR.out).mono ?_
 rintro e w' ⟨rfl, rfl⟩
 rw [HN.out.2.1]
 go_wp2_with fail
 refine (pm_LenS l w HL.out).mono ?_
 rintro e w' ⟨rfl, rfl⟩
 rw [HN.out.2.2.1]
 go_wp2_with fail
 refine (pm_LenS r w HR.out).mono ?_
 rintro e w' ⟨rfl, rfl⟩
 rw [HN.out.2.2.2]
 go_wp2_with fail
 go_ret
 refine ⟨w.heap.size, hN, rfl, ⟨?_, HL.out.below (below_new w _) rfl, HR.out.below (below_new w _) rfl⟩, below_new w _⟩
 rw [heap_alloc_new]
 simp only [ht, sz, HN.out.1, HN.out.2.1, HN.out.2.2.1, HN.out.2.2.2, ← HM.out]
 rfl
end Go.Proofs.Ytnpiepimajippaa
