/- Words, contracts and walks that the proof stands on (KsN KsO TrC TrW ElS KuD KsP OpenC OpenK). -/
import Derived.Deep.CutRange
import Derived.Deep.DeepHandedRow
import Derived.Deep.DeepWitnessRowRef
import Derived.Deep.Grids
import Derived.Deep.Slices
import Derived.Lib.LaidIn
import Derived.Lib.LaidU8T
import Derived.LoopIn
import Derived.LoopNIn
import Derived.OpenShut
import Derived.ProofKit
import Derived.Shelf.Vars
import Derived.SliceStrings
import Derived.Test.YtkjchoamdibolaaDoorCards
import Derived.Test.YtkjchoamdibolaaDoorKC1
import Derived.Test.YtkjchoamdibolaaDoorKC2
import Derived.Test.YtkjchoamdibolaaDoorKC3
import Derived.Test.YtkjchoamdibolaaDoorKC4
import Derived.Test.YtkjchoamdibolaaDoorTie
namespace Go.Proofs.YtkjchoamdibolaaDoor
open Go.RowKit Ku St Pm
def markB : ByteArray := ⟨#[109, 97, 114, 107]⟩
set_option maxRecDepth 100000 in
set_option maxHeartbeats 2000000 in
theorem law5_copied (l : List ByteArray) (a : Option Addr) (n c : Nat) (w : World) (hl : CellsAt w a (txV l)) (hn : n = l.length) (hb : n ≤ 1000000) :
 Calls Tryd.prog 7 #[.slice a n c] w fun e w' => ∃ g k, e = .returned (.slice (some ⟨g, 0, none⟩) n k) ∧ w.heap.size ≤ g ∧ n + 1 ≤ k ∧ w'.ownsRow w.heap.size 9 1 (.slice (some ⟨g, 0, none⟩) (n + 1) k) (n + 1) (txV (l ++ [markB])) ∧ Below w.heap.size w w' := by
 have ST := Lib.hid sxT
 have SRC : Hid (Src Tryd.prog 1 22 (.slice a n c) n (txV l) w) := Lib.hid (hl.srcN (by rw [txV_len, Nat.mul_one]; exact hn.symm) (txV_one l) Tryd.underlying22 c (by decide))
 clear hl hn
 go_enter Tryd.func7, Tryd.ntmps7
 go_wp2_with (first
  | (at_builtin; refine wpList_app rfl _ _ 22 22 rfl w.heap.size 9 _ 1 16 ST.out (.slice none 0 0) 0 [] rfl ⟨rfl, Or.inl ⟨rfl, rfl⟩⟩ _ n (txV l) rfl SRC.out (by omega) (by omega) (Nat.le_refl _) ?_; intro v1 w1 hown _ hb1 _; have O1 : Hid (World.ownsRow w1 w.heap.size 9 1 v1 n (txV l)) := Lib.hid (by simpa using hown); have E1 := Lib.hid hb1; clear hown hb1)
  | (at_builtin; refine wpList_app rfl _ _ 22 22 rfl w.heap.size 9 _ 1 16 ST.out v1 n (txV l) rfl (O1.out.alloc _) _ 1 (txV [markB]) rfl ((CellsAt.new w1 9 (0, 0) (txV [markB])).srcN rfl (txV_one _) Tryd.underlying22 1 (by decide)) (by omega) (by omega) (by have := E1.out.size; simp; omega) ?_; intro v2 w2 hown _ hb2 _; obtain ⟨g, k, rfl, hg, _, hk, _⟩ := own_form hown (by omega); have O2 := Lib.hid hown; have E2 := Lib.hid ((E1.out.alloc E1.out.size _).trans hb2); have HG := Lib.hid (And.intro hg hk); have hsl : ∀ W, (Instr.slice 22 (.slice (some ⟨g, 0, none⟩) (n + 1) k) none (some (.int .i64 (n : Int))) none).run Tryd.prog W = .ok (.slice (some ⟨g, 0, none⟩) n k) W := (fun W => run_upto W 22 9 Tryd.underlying22 1 (fun w => by kernel_rfl) _ (.inr ⟨g, rfl⟩) (n + 1) k n _ rfl (by omega)); clear hown hb2 hg hk))
 go_ret
 exact ⟨g, k, rfl, HG.out.1, HG.out.2, by simpa [txV] using O2.out, E2.out⟩
set_option maxRecDepth 100000 in
set_option maxHeartbeats 2000000 in
theorem law5_left (l : List ByteArray) (a : Option Addr) (n c g k B : Nat) (w : World) (hm : w.ownsRow B 9 1 (.slice (some ⟨g, 0, none⟩) (n + 1) k) (n + 1) (txV (l ++ [markB]))) (hl : CellsAt w a (txV l)) (hne : ∀ ad, 0 < n → a = some ad → ad.block ≠ g) (hn : n = l.length) (hb : n ≤ 1000000) (hnk : n + 1 ≤ k) :
 Calls Tryd.prog 12 #[.slice (some ⟨g, 0, none⟩) n k, .slice a n c] w fun e w' => e = .returned (.bool true) ∧ w.grownBy w' (some g) := by
 have HM := Lib.hid hm
 have HL := Lib.hid hl
 have HNE := Lib.hid hne
 have HN := Lib.hid hn
 have hsl : ∀ W, (Instr.slice 22 (.slice (some ⟨g, 0, none⟩) n k) none (some (.int .i64 ((n : Int) + 1))) none).run Tryd.prog W = .ok (.slice (some ⟨g, 0, none⟩) (n + 1) k) W := (fun W => by
  have h := run_upto W 22 9 Tryd.underlying22 1 (fun w => by kernel_rfl) _ (.inr ⟨g, rfl⟩) n k (n + 1) _ rfl (by omega)
  simpa using h)
 have hw1 : IntKind.i64.wrap ((n : Int) + 1) = (n : Int) + 1 := by rw [IntKind.wrap_i64]; omega
 obtain ⟨g', e, _, hc, _, _⟩ := own_cell hm n (.string markB) (by simp [txV, ← hn])
 cases e
 have hni : (n : Int) < (n : Int) + 1 := by omega
 clear hm hl hne hn
 go_enter Tryd.func12, Tryd.ntmps12
 have hmk : markB.toList = [109, 97, 114, 107] := by rw [ByteArray.toList_eq]; rfl
 go_wp2_with fail
 clear hsl hw1 hc hmk hni
 go_loopw [5, 6] (fun s i wr => ∃ (j : Nat) (xs : List Value), s = .bool true ∧ i = .int .i64 (j : Int) ∧ j ≤ n ∧ Hid (∀ q, j ≤ q → xs[q]? = (txV (l ++ [markB]))[q]?) ∧ Hid (wr.ownsRow B 9 1 (.slice (some ⟨g, 0, none⟩) (n + 1) k) (n + 1) xs) ∧ Hid (w.grownBy wr (some g))) (fun _ i _ => n - (intOf i).toNat)
 case atStart => exact ⟨0, _, rfl, rfl, Nat.zero_le _, Lib.hid (fun _ _ => rfl), HM, Lib.hid ⟨rfl, rfl, rfl, Nat.le_refl _, fun _ _ _ => rfl⟩⟩
 case round =>
  obtain ⟨j, xs, rfl, rfl, hj, HX, HO, HGR⟩ := hrel
  by_cases hlt : j < n
  · have hji : (j : Int) < (n : Int) := by omega
    have hjl : j < l.length := by have := HN.out; omega
    obtain ⟨x, hx⟩ : ∃ x, l[j] = x := ⟨_, rfl⟩
    have hxj : xs[j]? = some (.string x) := by
     rw [HX.out j (Nat.le_refl _), ← hx]
     unfold txV
     rw [List.map_append, List.getElem?_append_left (by simpa using hjl)]
     simp [hjl]
    have CL := Lib.hid (cells_grown HL.out HGR.out (fun ad => HNE.out ad (by omega)))
    obtain ⟨ba, oa, ha, p0⟩ := tx_get CL.out j hjl
    rw [hx] at p0
    have hnb : ba ≠ g := HNE.out _ (by omega) ha
    subst ha
    have HP0 := Lib.hid p0
    have HNB := Lib.hid hnb
    have HXJ := Lib.hid hxj
    clear hx hxj p0 hnb hjl
    go_upto_region 5 with (fail)
    go_cut [5] (fun u5 wx => u5 = .bool true ∧ Hid (Below wr.heap.size wr wx))
    case first =>
     refine wp_region_noPanic ?_
     refine wp_region_held_drew (S := fun w' => Below wr.heap.size wr w') (by kernel_rfl) (Below.refl _ _).drew (fun hS => ?_)
     refine wpAnyH_take (i := 0) (oi := ⟨some 30, _, _, _, _, _⟩) (v := ?_) rfl (by kernel_rfl) (by kernel_rfl) (by kernel_rfl) (fun _ _ _ h => h) (Or.inl ⟨by rfl, ?_⟩) hS ?_
     rotate_left 1
     · intro w' hB; have ho := own_later HO.out hB (Nat.le_refl _); obtain ⟨g', e, _, hc, _, _⟩ := own_cell ho j (.string x) HXJ.out; cases e; have hd := (hB.cell (p := ⟨ba, oa + j, none⟩) (cell_lt HP0.out)).trans HP0.out; (go_simp <;> with_reducible rfl)
     try simp only [Act.put, List.setIfInBounds_toArray, List.set_cons_zero, List.set_cons_succ]
     refine wpAnyH_take (i := 1) (oi := ⟨some 31, _, _, _, _, _⟩) (v := ?_) rfl (by kernel_rfl) (by kernel_rfl) (by kernel_rfl) (fun _ _ _ h => h) (Or.inl ⟨by rfl, ?_⟩) hS ?_
     rotate_left 1
     · intro w' hB; have ho := own_later HO.out hB (Nat.le_refl _); obtain ⟨g', e, _, hc, _, _⟩ := own_cell ho j (.string x) HXJ.out; cases e; have hd := (hB.cell (p := ⟨ba, oa + j, none⟩) (cell_lt HP0.out)).trans HP0.out; (go_simp <;> with_reducible rfl)
     try simp only [Act.put, List.setIfInBounds_toArray, List.set_cons_zero, List.set_cons_succ]
     refine wpAnyH_take (i := 2) (oi := ⟨some 32, _, _, _, _, _⟩) (v := ?_) rfl (by kernel_rfl) (by kernel_rfl) (by kernel_rfl) (fun _ _ _ h => h) (Or.inl ⟨by rfl, ?_⟩) hS ?_
     rotate_left 1
     · intro w' hB; have ho := own_later HO.out hB (Nat.le_refl _); obtain ⟨g', e, _, hc, _, _⟩ := own_cell ho j (.string x) HXJ.out; cases e; have hd := (hB.cell (p := ⟨ba, oa + j, none⟩) (cell_lt HP0.out)).trans HP0.out; (go_simp <;> with_reducible rfl)
     try simp only [Act.put, List.setIfInBounds_toArray, List.set_cons_zero, List.set_cons_succ]
     refine wpAnyH_take (i := 3) (oi := ⟨some 33, _, _, _, _, _⟩) (v := ?_) rfl (by kernel_rfl) (by kernel_rfl) (by kernel_rfl) (fun _ _ _ h => h) (Or.inl ⟨by rfl, ?_⟩) hS ?_
     rotate_left 1
     · intro w' hB; have ho := own_later HO.out hB (Nat.le_refl _); obtain ⟨g', e, _, hc, _, _⟩ := own_cell ho j (.string x) HXJ.out; cases e; have hd := (hB.cell (p := ⟨ba, oa + j, none⟩) (cell_lt HP0.out)).trans HP0.out; (go_simp <;> with_reducible rfl)
     try simp only [Act.put, List.setIfInBounds_toArray, List.set_cons_zero, List.set_cons_succ]
     refine wpAnyH_take (i := 4) (oi := ⟨some 34, _, _, _, _, _⟩) (v := ?_) rfl (by kernel_rfl) (by kernel_rfl) (by kernel_rfl) (fun _ _ _ h => h) (Or.inl ⟨by rfl, ?_⟩) hS ?_
     rotate_left 1
     · intro w' hB; have ho := own_later HO.out hB (Nat.le_refl _); obtain ⟨g', e, _, hc, _, _⟩ := own_cell ho j (.string x) HXJ.out; cases e; have hd := (hB.cell (p := ⟨ba, oa + j, none⟩) (cell_lt HP0.out)).trans HP0.out; (go_simp <;> with_reducible rfl)
     try simp only [Act.put, List.setIfInBounds_toArray, List.set_cons_zero, List.set_cons_succ]
     refine wpAnyH_take (i := 5) (oi := ⟨some 35, _, _, _, _, _⟩) (v := ?_) rfl (by kernel_rfl) (by kernel_rfl) (by kernel_rfl) (fun _ _ _ h => h) (Or.inl ⟨by rfl, ?_⟩) hS ?_
     rotate_left 1
     · intro w' hB; have ho := own_later HO.out hB (Nat.le_refl _); obtain ⟨g', e, _, hc, _, _⟩ := own_cell ho j (.string x) HXJ.out; cases e; have hd := (hB.cell (p := ⟨ba, oa + j, none⟩) (cell_lt HP0.out)).trans HP0.out; (go_simp <;> with_reducible rfl)
     try simp only [Act.put, List.setIfInBounds_toArray, List.set_cons_zero, List.set_cons_succ]
     refine wpAnyH_take (i := 6) (oi := ⟨some 36, _, _, _, _, _⟩) (v := ?_) rfl (by kernel_rfl) (by kernel_rfl) (by kernel_rfl) (fun _ _ _ h => h) (Or.inl ⟨by rfl, ?_⟩) hS ?_
     rotate_left 1
     · intro w' hB; have ho := own_later HO.out hB (Nat.le_refl _); obtain ⟨g', e, _, hc, _, _⟩ := own_cell ho j (.string x) HXJ.out; cases e; have hd := (hB.cell (p := ⟨ba, oa + j, none⟩) (cell_lt HP0.out)).trans HP0.out; (go_simp <;> with_reducible rfl)
     try simp only [Act.put, List.setIfInBounds_toArray, List.set_cons_zero, List.set_cons_succ]
     refine wpAnyH_take (i := 7) (oi := ⟨some 37, _, _, _, _, _⟩) (v := ?_) rfl (by kernel_rfl) (by kernel_rfl) (by kernel_rfl) (fun _ _ _ h => h) (Or.inl ⟨by rfl, ?_⟩) hS ?_
     rotate_left 1
     · intro w' hB; have ho := own_later HO.out hB (Nat.le_refl _); obtain ⟨g', e, _, hc, _, _⟩ := own_cell ho j (.string x) HXJ.out; cases e; have hd := (hB.cell (p := ⟨ba, oa + j, none⟩) (cell_lt HP0.out)).trans HP0.out; (go_simp <;> with_reducible rfl)
     try simp only [Act.put, List.setIfInBounds_toArray, List.set_cons_zero, List.set_cons_succ]
     refine wpAnyH_take (i := 8) (oi := ⟨some 38, _, _, _, _, _⟩) (v := ?_) rfl (by kernel_rfl) (by kernel_rfl) (by kernel_rfl) (fun _ _ _ h => h) (Or.inl ⟨by rfl, ?_⟩) hS ?_
     rotate_left 1
     · intro w' hB; have ho := own_later HO.out hB (Nat.le_refl _); obtain ⟨g', e, _, hc, _, _⟩ := own_cell ho j (.string x) HXJ.out; cases e; have hd := (hB.cell (p := ⟨ba, oa + j, none⟩) (cell_lt HP0.out)).trans HP0.out; (go_simp <;> with_reducible rfl)
     try simp only [Act.put, List.setIfInBounds_toArray, List.set_cons_zero, List.set_cons_succ]
     refine wpAnyH_take (i := 9) (oi := ⟨some 39, _, _, _, _, _⟩) (v := ?_) rfl (by kernel_rfl) (by kernel_rfl) (by kernel_rfl) (fun _ _ _ h => h) (Or.inl ⟨by rfl, ?_⟩) hS ?_
     rotate_left 1
     · intro w' hB; have ho := own_later HO.out hB (Nat.le_refl _); obtain ⟨g', e, _, hc, _, _⟩ := own_cell ho j (.string x) HXJ.out; cases e; have hd := (hB.cell (p := ⟨ba, oa + j, none⟩) (cell_lt HP0.out)).trans HP0.out; (go_simp <;> with_reducible rfl)
     try simp only [Act.put, List.setIfInBounds_toArray, List.set_cons_zero, List.set_cons_succ]
     refine wpAnyH_take (i := 10) (oi := ⟨some 40, _, _, _, _, _⟩) (v := ?_) rfl (by kernel_rfl) (by kernel_rfl) (by kernel_rfl) (fun _ _ _ h => h) (Or.inl ⟨by rfl, ?_⟩) hS ?_
     rotate_left 1
     · intro w' hB; have ho := own_later HO.out hB (Nat.le_refl _); obtain ⟨g', e, _, hc, _, _⟩ := own_cell ho j (.string x) HXJ.out; cases e; have hd := (hB.cell (p := ⟨ba, oa + j, none⟩) (cell_lt HP0.out)).trans HP0.out; (go_simp <;> with_reducible rfl)
     try simp only [Act.put, List.setIfInBounds_toArray, List.set_cons_zero, List.set_cons_succ]
     refine wpAnyH_take (i := 11) (oi := ⟨some 41, _, _, _, _, _⟩) (v := ?_) rfl (by kernel_rfl) (by kernel_rfl) (by kernel_rfl) (fun _ _ _ h => h) (Or.inl ⟨by rfl, ?_⟩) hS ?_
     rotate_left 1
     · intro w' hB; have ho := own_later HO.out hB (Nat.le_refl _); obtain ⟨g', e, _, hc, _, _⟩ := own_cell ho j (.string x) HXJ.out; cases e; have hd := (hB.cell (p := ⟨ba, oa + j, none⟩) (cell_lt HP0.out)).trans HP0.out; (go_simp <;> with_reducible rfl)
     try simp only [Act.put, List.setIfInBounds_toArray, List.set_cons_zero, List.set_cons_succ]
     refine wpAnyH_take (i := 12) (oi := ⟨some 5, _, _, _, _, _⟩) (v := ?_) rfl (by kernel_rfl) (by kernel_rfl) (by kernel_rfl) (fun _ _ _ h => h) (Or.inl ⟨by rfl, ?_⟩) hS ?_
     rotate_left 1
     · intro w' hB; have ho := own_later HO.out hB (Nat.le_refl _); obtain ⟨g', e, _, hc, _, _⟩ := own_cell ho j (.string x) HXJ.out; cases e; have hd := (hB.cell (p := ⟨ba, oa + j, none⟩) (cell_lt HP0.out)).trans HP0.out; (go_simp <;> with_reducible rfl)
     try simp only [Act.put, List.setIfInBounds_toArray, List.set_cons_zero, List.set_cons_succ]
     refine wpAnyH_done (by kernel_rfl) (NoPanic.normal ?_) _
     have HBD := Lib.hid hS
     go_wp2_with fail
     go_meet
     exact ⟨rfl, HBD⟩
    case rest =>
     obtain ⟨rfl, HBD⟩ := hcut
     have ho := own_later HO.out HBD.out (Nat.le_refl _)
     obtain ⟨g', e, _, hc, hf, _⟩ := own_cell ho j (.string x) HXJ.out
     cases e
     have hfj := hf j
     have HO2 := Lib.hid (own_set ho j (.string ⟨#[111, 118, 101, 114]⟩))
     have HG2 := Lib.hid (grown_tr HGR.out (grown_tr (grown_below HBD.out (Nat.le_refl _)) (grown_set wc g j (.string ⟨#[111, 118, 101, 114]⟩))))
     clear ho hf
     go_wp2_with fail
     go_roundw
     case rel => exact ⟨j + 1, xs.set j (.string ⟨#[111, 118, 101, 114]⟩), rfl, by go_num, by omega, Lib.hid (fun q hq => by rw [List.getElem?_set_ne (by omega)]; exact HX.out q (by omega)), HO2, HG2⟩
     case measure => simp [intOf]; omega
  · obtain rfl : j = n := by omega
    go_wp2_with fail
    go_ret
    exact ⟨rfl, HGR.out⟩
end Go.Proofs.YtkjchoamdibolaaDoor
namespace Go.Proofs.YtkjchoamdibolaaDoor
open Go.RowKit Ku St Pm
theorem jn_cat (l : List ByteArray) (x : ByteArray) : (⟨(jn l).toArray⟩ : ByteArray) ++ ⟨#[47]⟩ ++ x = ⟨(jn (l ++ [x])).toArray⟩ := by
 apply ByteArray.ext
 apply Array.toList_inj.1
 simp [jn]
set_option maxRecDepth 100000 in
theorem ref5_Join (l : List ByteArray) (a : Option Addr) (n c : Nat) (w : World) (hl : CellsAt w a (txV l)) (hn : n = l.length) (hp : pathG l = true) :
 Calls Tryd.prog 13 #[.slice a n c] w fun e w' => e = .returned (.string (joinB l)) ∧ w = w' := by
 have HL := Lib.hid hl
 have HN := Lib.hid hn
 have HP := Lib.hid (pathG_sz hp)
 have hb : n ≤ 6 := by rw [hn]; exact (pathG_sz hp).1
 clear hl hn hp
 by_cases h0 : n = 0
 · subst h0
   obtain rfl : l = [] := List.length_eq_zero_iff.1 HN.out.symm
   go_enter Tryd.func13, Tryd.ntmps13
   go_wp2_with fail
   go_ret
   exact ⟨rfl, rfl⟩
 have h0i : ¬ (n : Int) = 0 := by omega
 go_enter Tryd.func13, Tryd.ntmps13
 go_wp2_with fail
 go_loopw [3, 4] (fun s i wr => ∃ (j : Nat) (sb : ByteArray), s = .string sb ∧ i = .int .i64 (j : Int) ∧ j ≤ n ∧ Hid (sb = ⟨(jn (l.take j)).toArray⟩) ∧ w = wr) (fun _ i _ => n - (intOf i).toNat)
 case atStart => exact ⟨0, _, rfl, rfl, Nat.zero_le _, Lib.hid rfl, rfl⟩
 case round =>
  obtain ⟨j, sb, rfl, rfl, hj, HS, rfl⟩ := hrel
  by_cases hlt : j < n
  · have hji : (j : Int) < (n : Int) := by omega
    have hjl : j < l.length := by have := HN.out; omega
    obtain ⟨ba, oa, rfl, p0⟩ := tx_get HL.out j hjl
    obtain ⟨x, hx⟩ : ∃ x, l[j] = x := ⟨_, rfl⟩
    rw [hx] at p0
    have HX := Lib.hid hx
    have hsz : sb.size ≤ 390 := by
     rw [HS.out]
     have h1 := jn_len (l.take j) (fun y hy => HP.out.2 y (List.mem_of_mem_take hy))
     have h2 : (⟨(jn (l.take j)).toArray⟩ : ByteArray).size = (jn (l.take j)).length := by simp [ByteArray.size]
     have h3 : (l.take j).length ≤ 6 := by rw [List.length_take]; have := HN.out; omega
     omega
    have hxz : x.size ≤ 64 := HP.out.2 x (hx ▸ List.getElem_mem hjl)
    have hz1 : ¬ 9223372036854775807 < sb.size + 1 := by omega
    have hz2 : ¬ 9223372036854775807 < sb.size + 1 + x.size := by omega
    clear hx hsz hxz
    go_wp2_with fail
    go_roundw
    case rel => exact ⟨j + 1, _, rfl, by go_num, by omega, Lib.hid (by rw [HS.out, jn_cat, ← HX.out, List.take_succ_eq_append_getElem (by have := HN.out; omega)]), by first | trivial | rfl⟩
    case measure => simp [intOf]; omega
  · obtain rfl : j = n := by omega
    have HE : Hid (sb = joinB l) := Lib.hid (by rw [HS.out]; unfold joinB; rw [if_neg (by rw [← HN.out]; exact h0), List.take_of_length_le (by rw [← HN.out]; exact Nat.le_refl _)])
    clear HS
    go_wp2_with fail
    go_ret
    exact ⟨by rw [HE.out]; rfl, rfl⟩
end Go.Proofs.YtkjchoamdibolaaDoor
namespace Go.Proofs.YtkjchoamdibolaaDoor
namespace Pm
section
variable {α : Type}
def rn (N : Nat) : Tr α → Prop
 | .nil => False
 | .node b _ _ _ _ => N ≤ b
def hv (N : Nat) : Tr α → Prop
 | .nil => False
 | .node _ l _ _ r => (ht r < ht l ∧ rn N l) ∨ (ht l < ht r ∧ rn N r)
end
end Pm
end Go.Proofs.YtkjchoamdibolaaDoor
namespace Go.Proofs.YtkjchoamdibolaaDoor
namespace Pm
section
variable {α : Type}
def lk (z : α) : List (ByteArray × α) → ByteArray → α × Bool
 | [], _ => (z, false)
 | x :: l, k => if x.1 = k then (x.2, true) else lk z l k
theorem lk_none {z : α} {l : List (ByteArray × α)} {k : ByteArray} (h : ∀ x ∈ l, x.1 ≠ k) : lk z l k = (z, false) := by
 induction l with
 | nil => rfl
 | cons x l ih =>
  simp only [lk]
  rw [if_neg (h x List.mem_cons_self)]
  exact ih fun y hy => h y (List.mem_cons_of_mem _ hy)
theorem lk_left {z : α} {l m : List (ByteArray × α)} {k : ByteArray} (h : ∀ x ∈ m, x.1 ≠ k) : lk z (l ++ m) k = lk z l k := by
 induction l with
 | nil => exact lk_none h
 | cons x l ih =>
  simp only [List.cons_append, lk]
  rw [ih]
theorem lk_right {z : α} {l m : List (ByteArray × α)} {k : ByteArray} (h : ∀ x ∈ l, x.1 ≠ k) : lk z (l ++ m) k = lk z m k := by
 induction l with
 | nil => rfl
 | cons x l ih =>
  simp only [List.cons_append, lk]
  rw [if_neg (h x List.mem_cons_self)]
  exact ih fun y hy => h y (List.mem_cons_of_mem _ hy)
def nrm (z : α) (p : α × Bool) : α × Bool := if p.2 = true then p else (z, false)
theorem split_lt {N : Nat} {k : ByteArray} {t a x c : Tr α} (h : SplitR N k t a x c) (hs : Srt (items t)) : (∀ y ∈ items a, klt y.1 k = true) ∧ (∀ y ∈ items c, klt k y.1 = true) := by
 induction h with
 | nil => exact ⟨fun y hy => (by cases hy), fun y hy => (by cases hy)⟩
 | lt h1 h2 h3 ih =>
  obtain ⟨s1, s2, s3⟩ := srt_append.1 hs
  obtain ⟨s4, s5⟩ := srt_cons.1 s2
  obtain ⟨i1, i2⟩ := ih s1
  refine ⟨i1, fun y hy => ?_⟩
  rw [h3.items] at hy
  rcases List.mem_append.1 hy with hy | hy
  · exact i2 y hy
  · rcases List.mem_cons.1 hy with rfl | hy
    · exact h1
    · exact klt_trans h1 (s4 y hy)
 | gt h1 h2 h3 ih =>
  obtain ⟨s1, s2, s3⟩ := srt_append.1 hs
  obtain ⟨s4, s5⟩ := srt_cons.1 s2
  obtain ⟨i1, i2⟩ := ih s5
  refine ⟨fun y hy => ?_, i2⟩
  rw [h3.items] at hy
  rcases List.mem_append.1 hy with hy | hy
  · exact klt_trans (s3 y hy _ List.mem_cons_self) h1
  · rcases List.mem_cons.1 hy with rfl | hy
    · exact h1
    · exact i1 y hy
 | eq h1 =>
  subst h1
  obtain ⟨s1, s2, s3⟩ := srt_append.1 hs
  obtain ⟨s4, s5⟩ := srt_cons.1 s2
  exact ⟨fun y hy => s3 y hy _ List.mem_cons_self, fun y hy => s4 y hy⟩
theorem split_mid {N : Nat} {k : ByteArray} {t a x c : Tr α} (h : SplitR N k t a x c) : here x = [] ∨ ∃ v, here x = [(k, v)] := by
 rw [h.seek]
 cases e : Pm.seek k t with
 | nil => exact .inl rfl
 | node b l k0 v0 r =>
  obtain ⟨rfl, _⟩ := seek_some e
  exact .inr ⟨v0, rfl⟩
structure Parts (z : α) (k : ByteArray) (t a x c : Tr α) : Prop where
 sa : Srt (items a)
 sc : Srt (items c)
 la : ∀ y ∈ items a, klt y.1 k = true
 lc : ∀ y ∈ items c, klt k y.1 = true
 ea : ∀ q, klt q k = true → lk z (items a) q = lk z (items t) q
 ec : ∀ q, klt k q = true → lk z (items c) q = lk z (items t) q
 ma : ∀ y ∈ items a, y ∈ items t
 mc : ∀ y ∈ items c, y ∈ items t
 ex : lk z (items t) k = lk z (here x) k
 sz : sz t = sz a + (here x).length + sz c
theorem SplitR.parts {N : Nat} {k : ByteArray} {t a x c : Tr α} (z : α) (h : SplitR N k t a x c) (hs : Srt (Pm.items t)) : Parts z k t a x c := by
 obtain ⟨h1, h2⟩ := split_lt h hs
 have hi := h.items
 have hm := split_mid h
 have hx : ∀ y ∈ here x, y.1 = k := by
  rcases hm with e | ⟨v, e⟩
  · rw [e]; intro y hy; cases hy
  · rw [e]; intro y hy; rw [List.mem_singleton.1 hy]
 have hs0 := hs
 rw [hi, List.append_assoc] at hs
 obtain ⟨s1, s2, _⟩ := srt_append.1 hs
 obtain ⟨_, s3, _⟩ := srt_append.1 s2
 refine ⟨s1, s3, h1, h2, fun q hq => ?_, fun q hq => ?_, fun y hy => ?_, fun y hy => ?_, ?_, ?_⟩
 · rw [hi, List.append_assoc, lk_left]
   intro y hy
   rcases List.mem_append.1 hy with hy | hy
   · rw [hx y hy]; exact Ne.symm (klt_ne hq)
   · exact Ne.symm (klt_ne (klt_trans hq (h2 y hy)))
 · rw [hi, lk_right]
   intro y hy
   rcases List.mem_append.1 hy with hy | hy
   · exact klt_ne (klt_trans (h1 y hy) hq)
   · rw [hx y hy]; exact klt_ne hq
 · rw [hi]; exact List.mem_append_left _ (List.mem_append_left _ hy)
 · rw [hi]; exact List.mem_append_right _ hy
 · rw [hi, List.append_assoc, lk_right (fun y hy => klt_ne (h1 y hy)), lk_left (fun y hy => Ne.symm (klt_ne (h2 y hy)))]
 · rw [← sz_items, hi, ← sz_items a, ← sz_items c]; simp; omega
def Dj (s a : Tr α) : Prop := ∀ b ∈ blocks s, b ∉ blocks a
structure WlkI (z : α) (B0 A0 O0 : ByteArray → α × Bool) (C : ByteArray → Prop) (s a o : Tr α) : Prop where
 ss : Srt (items s)
 sa : Srt (items a)
 so : Srt (items o)
 bs : Bal s
 ba : Bal a
 bo : Bal o
 es : ∀ k, C k → lk z (items s) k = B0 k
 ea : ∀ k, C k → lk z (items a) k = A0 k
 eo : ∀ k, C k → lk z (items o) k = O0 k
 ins : ∀ x ∈ items s, C x.1
 ina : ∀ x ∈ items a, C x.1
 ino : ∀ x ∈ items o, C x.1
structure WlkO (z : α) (R B0 A0 O0 : ByteArray → α × Bool) (C : ByteArray → Prop) (s a o m : Tr α) (asked : List ByteArray) : Prop where
 srt : Srt (items m)
 bal : Bal m
 inC : ∀ x ∈ items m, C x.1
 nd : asked.Nodup
 sub : ∀ k ∈ asked, C k ∧ ((A0 k).2 = true ∨ (O0 k).2 = true)
 len : asked.length ≤ sz a + sz o
 siz : sz m ≤ sz a + sz o
 ans : ∀ k, C k → (k ∈ asked ∧ lk z (items m) k = nrm z (R k)) ∨ (k ∉ asked ∧ (((A0 k = O0 k ∨ B0 k = O0 k) ∧ lk z (items m) k = A0 k) ∨ (B0 k = A0 k ∧ lk z (items m) k = O0 k ∧ (Dj s a → (B0 k).2 = false))))
variable {z : α} {R B0 A0 O0 : ByteArray → α × Bool} {C : ByteArray → Prop} {s a o : Tr α}
theorem WlkI.left {key : ByteArray} {sl sx sr al ax ar ol ox or' : Tr α} {N1 N2 N3 : Nat} (h : WlkI z B0 A0 O0 C s a o) (h1 : SplitR N1 key s sl sx sr) (h2 : SplitR N2 key a al ax ar) (h3 : SplitR N3 key o ol ox or') :
 WlkI z B0 A0 O0 (fun k => C k ∧ klt k key = true) sl al ol ∧ WlkI z B0 A0 O0 (fun k => C k ∧ klt key k = true) sr ar or' := by
 have p1 := h1.parts z h.ss
 have p2 := h2.parts z h.sa
 have p3 := h3.parts z h.so
 exact ⟨⟨p1.sa, p2.sa, p3.sa, (h1.bal h.bs).1, (h2.bal h.ba).1, (h3.bal h.bo).1, fun k hk => (p1.ea k hk.2).trans (h.es k hk.1), fun k hk => (p2.ea k hk.2).trans (h.ea k hk.1), fun k hk => (p3.ea k hk.2).trans (h.eo k hk.1),
  fun x hx => ⟨h.ins x (p1.ma x hx), p1.la x hx⟩, fun x hx => ⟨h.ina x (p2.ma x hx), p2.la x hx⟩, fun x hx => ⟨h.ino x (p3.ma x hx), p3.la x hx⟩⟩,
  ⟨p1.sc, p2.sc, p3.sc, (h1.bal h.bs).2, (h2.bal h.ba).2, (h3.bal h.bo).2, fun k hk => (p1.ec k hk.2).trans (h.es k hk.1), fun k hk => (p2.ec k hk.2).trans (h.ea k hk.1), fun k hk => (p3.ec k hk.2).trans (h.eo k hk.1),
  fun x hx => ⟨h.ins x (p1.mc x hx), p1.lc x hx⟩, fun x hx => ⟨h.ina x (p2.mc x hx), p2.lc x hx⟩, fun x hx => ⟨h.ino x (p3.mc x hx), p3.lc x hx⟩⟩⟩
theorem said_up {m l : List (ByteArray × α)} {asked ks : List ByteArray} {s a s' a' : Tr α} {k : ByteArray} (hl : lk z m k = lk z l k) (ha : k ∈ asked ↔ k ∈ ks) (hd : Dj s a → Dj s' a')
 (h : (k ∈ ks ∧ lk z l k = nrm z (R k)) ∨ (k ∉ ks ∧ (((A0 k = O0 k ∨ B0 k = O0 k) ∧ lk z l k = A0 k) ∨ (B0 k = A0 k ∧ lk z l k = O0 k ∧ (Dj s' a' → (B0 k).2 = false))))) :
 (k ∈ asked ∧ lk z m k = nrm z (R k)) ∨ (k ∉ asked ∧ (((A0 k = O0 k ∨ B0 k = O0 k) ∧ lk z m k = A0 k) ∨ (B0 k = A0 k ∧ lk z m k = O0 k ∧ (Dj s a → (B0 k).2 = false)))) := by
 rw [hl, ha]
 rcases h with h | ⟨h1, h | ⟨h2, h3, h4⟩⟩
 · exact .inl h
 · exact .inr ⟨h1, .inl h⟩
 · exact .inr ⟨h1, .inr ⟨h2, h3, fun h => h4 (hd h)⟩⟩
theorem WlkO.step {key : ByteArray} {sl sx sr al ax ar ol ox or' l r m : Tr α} {as1 as2 : List ByteArray} {N1 N2 N3 : Nat} (h : WlkI z B0 A0 O0 C s a o) (hk : C key)
 (hx : 1 ≤ (here ax).length + (here ox).length)
 (h1 : SplitR N1 key s sl sx sr) (h2 : SplitR N2 key a al ax ar) (h3 : SplitR N3 key o ol ox or') (hd : Dj s a → Dj sl al ∧ Dj sr ar)
 (o1 : WlkO z R B0 A0 O0 (fun k => C k ∧ klt k key = true) sl al ol l as1) (o2 : WlkO z R B0 A0 O0 (fun k => C k ∧ klt key k = true) sr ar or' r as2)
 (hm : items m = items l ++ ((if (R key).2 = true then [(key, (R key).1)] else []) ++ items r)) (hb : Bal m) : WlkO z R B0 A0 O0 C s a o m (as1 ++ as2 ++ [key]) := by
 have p2 := h2.parts z h.sa
 have p3 := h3.parts z h.so
 have l1 : ∀ k ∈ as1, klt k key = true := fun k hk => (o1.sub k hk).1.2
 have l2 : ∀ k ∈ as2, klt key k = true := fun k hk => (o2.sub k hk).1.2
 have hmid : ∀ y ∈ (if (R key).2 = true then [(key, (R key).1)] else [] : List (ByteArray × α)), y.1 = key := by
  intro y hy
  split at hy
  · rw [List.mem_singleton.1 hy]
  · cases hy
 have hml : (if (R key).2 = true then [(key, (R key).1)] else [] : List (ByteArray × α)).length ≤ 1 := by split <;> simp
 generalize hq : (if (R key).2 = true then [(key, (R key).1)] else [] : List (ByteArray × α)) = mid at *
 refine ⟨?_, hb, ?_, ?_, ?_, ?_, ?_, ?_⟩
 · rw [hm]
   refine srt_append.2 ⟨o1.srt, srt_append.2 ⟨?_, o2.srt, fun x hx y hy => ?_⟩, fun x hx y hy => ?_⟩
   · rw [← hq]; split <;> simp [Srt]
   · rw [hmid x hx]; exact (o2.inC y hy).2
   · rcases List.mem_append.1 hy with hy | hy
     · rw [hmid y hy]; exact (o1.inC x hx).2
     · exact klt_trans (o1.inC x hx).2 (o2.inC y hy).2
 · intro x hx
   rw [hm] at hx
   rcases List.mem_append.1 hx with hx | hx
   · exact (o1.inC x hx).1
   · rcases List.mem_append.1 hx with hx | hx
     · rw [hmid x hx]; exact hk
     · exact (o2.inC x hx).1
 · rw [List.nodup_append, List.nodup_append]
   refine ⟨⟨o1.nd, o2.nd, fun x hx y hy e => ?_⟩, by simp, fun x hx y hy e => ?_⟩
   · subst e; have := klt_trans (l1 x hx) (l2 x hy); rw [klt_irrefl] at this; cases this
   · rw [List.mem_singleton.1 hy] at e
     subst e
     rcases List.mem_append.1 hx with hx | hx
     · have := l1 x hx; rw [klt_irrefl] at this; cases this
     · have := l2 x hx; rw [klt_irrefl] at this; cases this
 · intro k hk'
   rcases List.mem_append.1 hk' with hk' | hk'
   · rcases List.mem_append.1 hk' with hk' | hk'
     · exact ⟨(o1.sub k hk').1.1, (o1.sub k hk').2⟩
     · exact ⟨(o2.sub k hk').1.1, (o2.sub k hk').2⟩
   · rw [List.mem_singleton.1 hk']
     refine ⟨hk, ?_⟩
     have e2 : lk z (here ax) key = A0 key := by rw [← p2.ex]; exact h.ea key hk
     have e3 : lk z (here ox) key = O0 key := by rw [← p3.ex]; exact h.eo key hk
     rcases split_mid h2 with e | ⟨v, e⟩
     · rcases split_mid h3 with e' | ⟨v, e'⟩
       · rw [e, e'] at hx; simp at hx
       · right; rw [← e3, e']; simp [lk]
     · left; rw [← e2, e]; simp [lk]
 · have := o1.len; have := o2.len; have := p2.sz; have := p3.sz
   simp only [List.length_append, List.length_cons, List.length_nil]
   omega
 · have e1 : sz m = sz l + mid.length + sz r := by rw [← sz_items, hm, ← sz_items l, ← sz_items r]; simp; omega
   have := o1.siz; have := o2.siz; have := p2.sz; have := p3.sz
   omega
 · intro k hC
   by_cases hlt : klt k key = true
   · refine said_up (l := items l) (ks := as1) ?_ ?_ (fun h => (hd h).1) (o1.ans k ⟨hC, hlt⟩)
     · rw [hm, lk_left]
       intro y hy
       rcases List.mem_append.1 hy with hy | hy
       · rw [hmid y hy]; exact Ne.symm (klt_ne hlt)
       · exact Ne.symm (klt_ne (klt_trans hlt (o2.inC y hy).2))
     · simp only [List.mem_append, List.mem_singleton]
       constructor
       · rintro ((h | h) | h)
         · exact h
         · have := klt_trans hlt (l2 k h); rw [klt_irrefl] at this; cases this
         · exact absurd h (klt_ne hlt)
       · intro h; exact .inl (.inl h)
   · by_cases hgt : klt key k = true
     · refine said_up (l := items r) (ks := as2) ?_ ?_ (fun h => (hd h).2) (o2.ans k ⟨hC, hgt⟩)
       · rw [hm, lk_right (fun y hy => klt_ne (klt_trans (o1.inC y hy).2 hgt)), lk_right]
         intro y hy; rw [hmid y hy]; exact klt_ne hgt
       · simp only [List.mem_append, List.mem_singleton]
         constructor
         · rintro ((h | h) | h)
           · have := klt_trans (l1 k h) hgt; rw [klt_irrefl] at this; cases this
           · exact h
           · exact absurd h.symm (klt_ne hgt)
         · intro h; exact .inl (.inr h)
     · have e := klt_tri (by simpa using hlt) (by simpa using hgt)
       subst e
       refine .inl ⟨by simp, ?_⟩
       rw [hm, lk_right (fun y hy => klt_ne (o1.inC y hy).2), lk_left (fun y hy => Ne.symm (klt_ne (o2.inC y hy).2)), ← hq]
       unfold nrm
       split
       · simp [lk]; exact Prod.ext rfl (by simpa using (‹(R k).2 = true›).symm)
       · rfl
theorem WlkO.all {m : Tr α} {asked : List ByteArray} (h : WlkO z R B0 A0 O0 C s a o m asked) (k : ByteArray) (hk : C k) (h1 : A0 k = O0 k ∨ B0 k = O0 k → nrm z (R k) = A0 k) (h2 : B0 k = A0 k → nrm z (R k) = O0 k ∨ (Dj s a ∧ (B0 k).2 = true)) : lk z (items m) k = nrm z (R k) := by
 rcases h.ans k hk with ⟨_, h⟩ | ⟨_, ⟨h3, h4⟩ | ⟨h3, h4, h5⟩⟩
 · exact h
 · rw [h4, h1 h3]
 · rcases h2 h3 with h6 | ⟨h6, h7⟩
   · rw [h4, h6]
   · rw [h5 h6] at h7; cases h7
end
end Pm
end Go.Proofs.YtkjchoamdibolaaDoor
namespace Go.Proofs.YtkjchoamdibolaaDoor
namespace St
open Pm
theorem txtC_neg (a b : ByteArray) : txtC b a = - txtC a b := by
 unfold txtC
 cases h : klt a b with
 | true => rw [klt_asymm h]; simp
 | false => cases h' : klt b a <;> simp
section
variable {A B a b : List El} {x y : El}
end
end St
end Go.Proofs.YtkjchoamdibolaaDoor
namespace Go.Proofs.YtkjchoamdibolaaDoor
namespace Ku
open St Pm
structure Ord3 {α : Type} (c : α → α → Int) : Prop where
 neg : ∀ x y, c y x = - c x y
 rng : ∀ x y, c x y = -1 ∨ c x y = 0 ∨ c x y = 1
 trans : ∀ x y z, c x y ≤ 0 → c y z ≤ 0 → c x z ≤ 0
theorem Ord3.self {α : Type} {c : α → α → Int} (h : Ord3 c) (x : α) : c x x = 0 := by have := h.neg x x; omega
theorem Ord3.zero {α : Type} {c : α → α → Int} (h : Ord3 c) {x y z : α} (hxy : c x y ≤ 0) (hyz : c y z ≤ 0) (h0 : c x z = 0) : c x y = 0 ∧ c y z = 0 := by
 have a := h.neg x z
 have h1 := h.trans y z x hyz (by omega)
 have h2 := h.trans z x y (by omega) hxy
 have b := h.neg x y
 have d := h.neg y z
 constructor <;> omega
theorem txt_le {a b : ByteArray} : txtC a b ≤ 0 ↔ klt b a = false := by
 unfold txtC
 cases h : klt a b with
 | true => rw [klt_asymm h]; simp
 | false => cases h' : klt b a <;> simp
theorem txtO : Ord3 txtC where
 neg := txtC_neg
 rng x y := by unfold txtC; split; exact .inl rfl; split; exact .inr (.inr rfl); exact .inr (.inl rfl)
 trans x y z h k := by
  rw [txt_le] at *
  cases hz : klt z x with
  | false => rfl
  | true =>
   cases hy : klt y z with
   | true => rw [klt_trans hy hz] at h; cases h
   | false =>
    have := klt_tri hy k
    subst this
    rw [hz] at h
    cases h
theorem path_neg : ∀ l m : List ByteArray, pathC m l = - pathC l m
 | [], [] => rfl
 | [], _ :: _ => rfl
 | _ :: _, [] => rfl
 | x :: l, y :: m => by
  unfold pathC
  have := txtC_neg x y
  by_cases h : txtC x y = 0
  · rw [if_pos h, if_pos (by omega)]; exact path_neg l m
  · rw [if_neg h, if_neg (by omega)]; exact this
theorem path_rng : ∀ l m : List ByteArray, pathC l m = -1 ∨ pathC l m = 0 ∨ pathC l m = 1
 | [], [] => .inr (.inl rfl)
 | [], _ :: _ => .inl rfl
 | _ :: _, [] => .inr (.inr rfl)
 | x :: l, y :: m => by
  unfold pathC
  split
  · exact path_rng l m
  · exact txtO.rng x y
theorem path_trans : ∀ l m n : List ByteArray, pathC l m ≤ 0 → pathC m n ≤ 0 → pathC l n ≤ 0
 | [], _, [], _, _ => by decide
 | [], _, _ :: _, _, _ => by show (-1 : Int) ≤ 0; omega
 | _ :: _, [], _, h, _ => by have : (1 : Int) ≤ 0 := h; omega
 | _ :: _, _ :: _, [], _, k => by have : (1 : Int) ≤ 0 := k; omega
 | x :: l, y :: m, z :: n, h, k => by
  unfold pathC at h k ⊢
  have hx : txtC x y ≤ 0 := by split at h <;> omega
  have hy : txtC y z ≤ 0 := by split at k <;> omega
  have hz := txtO.trans x y z hx hy
  by_cases h0 : txtC x z = 0
  · obtain ⟨e1, e2⟩ := txtO.zero hx hy h0
    rw [if_pos e1] at h
    rw [if_pos e2] at k
    rw [if_pos h0]
    exact path_trans l m n h k
  · rw [if_neg h0]; exact hz
theorem pathO : Ord3 pathC := ⟨fun l m => path_neg l m, path_rng, path_trans⟩
end Ku
end Go.Proofs.YtkjchoamdibolaaDoor
namespace Go.Proofs.YtkjchoamdibolaaDoor
open Go.RowKit Ku St Pm
attribute [local go_sem] Oper.semAt_some
theorem run_uptoA {P : Program} (w : World) (t e : TypeId) (ht : P.underlying t = some (.slice e)) (size : Nat) (hz : ∀ w, (Go.sizeOf e).run P w = .ok size w) (a : Option Addr) (len cap k : Nat) (hk : k ≤ cap) :
 (Instr.slice t (.slice a len cap) none (some (.int .i64 (k : Int))) none).run P w = .ok (.slice a k cap) w := by
 have ht' : P.underlying t = some (.slice (P.elem t)) := by simp [Program.elem, ht]
 have he : P.elem t = e := by simp [Program.elem, ht]
 rw [run_slice_h w t _ _ _ ht' .i64 _ (by omega) (by omega), he, hz]
 have hadd : ∀ x : Addr, x.add 0 = x := fun x => by cases x with | mk b o i => cases i <;> simp [Addr.add]
 cases a with
 | none => simp [Result.andThen, sliced]
 | some x => simp [Result.andThen, sliced, hadd]
theorem ref5_JoinB (l : List ByteArray) (a : Option Addr) (n c : Nat) (w : World) (hl : CellsAt w a (txV l)) (hn : n = l.length) (hp : pathG l = true) :
 Calls Tryd.prog 13 #[.slice a n c] w fun e w' => e = .returned (.string (joinB l)) ∧ Below w.heap.size w w' := (ref5_Join l a n c w hl hn hp).mono fun _ _ ⟨h1, h2⟩ => ⟨h1, by rw [← h2]; exact Below.refl _ _⟩
def ptT (g : Nat → Value) (s z T : Nat) : Array Value := #[g 0, g 1, .pointer (some ⟨s, 0, none⟩), .pointer (some ⟨s + 1, 0, none⟩), .pointer (some ⟨s + 1 + 1, 0, none⟩), g 5, g 6, g 7, g 8, .func (.func 32) #[] #[.pointer (some ⟨z, 0, none⟩)], g 10, .pointer (some ⟨T, 0, none⟩), g 12, g 13, g 14, g 15, g 16, g 17, g 18, g 19, g 20, g 21, g 22, g 23, g 24, g 25, g 26, g 27, g 28, g 29, g 30, g 31, g 32, g 33, g 34, g 35, g 36, g 37, g 38, g 39, g 40, g 41, g 42, g 43, g 44, g 45, g 46, g 47, g 48, g 49, g 50, g 51, g 52, g 53, g 54, g 55, g 56, g 57, g 58, g 59, g 60, g 61, g 62, g 63, g 64, g 65, g 66, g 67, g 68, g 69, g 70, g 71, g 72, g 73, g 74, g 75, g 76, g 77, g 78, g 79, g 80, g 81, g 82, g 83, g 84, g 85, g 86, g 87, g 88, g 89, g 90, g 91, g 92, g 93, g 94, g 95, g 96, g 97, g 98, g 99, g 100, g 101, g 102, g 103, g 104, g 105, g 106, g 107, g 108, g 109, g 110, g 111, g 112, g 113, g 114, g 115, g 116, g 117, g 118, g 119, g 120, g 121, g 122, g 123, g 124, g 125, g 126, g 127, g 128, g 129, g 130, g 131, g 132, g 133, g 134, g 135, g 136, g 137, g 138, g 139, g 140, g 141, g 142, g 143, g 144, g 145, g 146, g 147, g 148, g 149, g 150, g 151, g 152, g 153, g 154]
structure PtI (c T u B : Nat) (Ds : List Nat) (w : World) (pre : List FX) (W : World) : Prop where
 cnt : Boxed W c 3 (.int .i64 (pre.length : Int))
 trn : Boxed W T 3 (.int .i64 (u : Int))
 mrk : Facts (markF Ds) W
 bel : Below B w W
theorem ptI_own {c T u B : Nat} {Ds : List Nat} {w : World} {N : Nat} (hB : B ≤ w.heap.size) (hN : B ≤ N) (hc : c < N) (hT : T < N) (hD : ∀ D ∈ Ds, D < N) : OwnFrom N (PtI c T u B Ds w) := by
 rintro pre A A' row ⟨h1, h2, h3, h4⟩ hg hr
 exact ⟨own_block (β := Unit) hc () A A' row h1 hg hr, own_block (β := Unit) hT () A A' row h2 hg hr, facts_own (β := Unit) _ N (fun p hp => by obtain ⟨D, hD', rfl⟩ := List.mem_map.1 hp; exact hD D hD') () A A' row h3 hg hr, ownFrom_below (β := Unit) hB hN () A A' row h4 hg hr⟩
theorem PtI.below {c T u B : Nat} {Ds : List Nat} {w : World} {pre : List FX} {A A' : World} (h : PtI c T u B Ds w pre A) (hb : Below A.heap.size A A') (hB : B ≤ A.heap.size) : PtI c T u B Ds w pre A' :=
 ⟨boxStays h.cnt hb, boxStays h.trn hb, h.mrk.below hb, h.bel.trans (hb.mono hB)⟩
theorem keepsFrom_row {B base size n : Nat} {e : TypeId} {v : Value} {xs : List Value} {A A' : World} (hg : A.grownBy A' v.ownBlock) (ho : A.ownsRow base e size v n xs) : KeepsFrom B A A' :=
 ⟨hg.size, fun k o _ h hc => (hg.block k (Array.getElem?_eq_some_iff.1 h).1 (fun e2 => by
  obtain ⟨o', h1, h2⟩ := own_obj ho e2.symm
  rw [h] at h1; cases h1; rw [hc] at h2; cases h2)).trans h⟩
theorem keepU_row {S : Nat → Prop} {base size n : Nat} {e : TypeId} {v : Value} {xs : List Value} {A A' : World} (hg : A.grownBy A' v.ownBlock) (ho : A.ownsRow base e size v n xs) (hS : ∀ k, S k → k < base ∧ k < A.heap.size) : KeepU S A A' :=
 ⟨hg.os, hg.tape, hg.output, hg.size, fun k hk => hg.block k (hS k hk).2 (fun e2 => by have h1 := (ho.lt k e2.symm).1; have h2 := (hS k hk).1; omega)⟩
theorem PtI.row {c T u B N size n : Nat} {e : TypeId} {v : Value} {xs : List Value} {Ds : List Nat} {w : World} {pre : List FX} {A A' : World} (h : PtI c T u B Ds w pre A) (hg : A.grownBy A' v.ownBlock) (ho : A.ownsRow N e size v n xs) (hc : c < N) (hT : T < N) (hD : ∀ D ∈ Ds, D < N) (hB : B ≤ N) (hBA : B ≤ A.heap.size) : PtI c T u B Ds w pre A' := by
 have key : ∀ k o, A.heap[k]? = some o → k < N → A'.heap[k]? = some o := fun k o hk hlt => (hg.block k (Array.getElem?_eq_some_iff.1 hk).1 (fun e2 => by have h1 := (ho.lt k e2.symm).1; omega)).trans hk
 exact ⟨key _ _ h.cnt hc, key _ _ h.trn hT, fun p hp => by obtain ⟨D, hD', rfl⟩ := List.mem_map.1 hp; exact key _ _ (h.mrk _ hp) (hD D hD'), h.bel.grown hg hBA (fun k hk => by have h1 := (ho.lt k hk).1; omega)⟩
set_option maxRecDepth 100000 in
set_option maxHeartbeats 8000000 in
theorem law_Paths (l : List ByteArray) (leave : Int) (a : Option Addr) (n c : Nat) (w : World) (hl : CellsAt w a (txV l)) (hn : n = l.length) (hbig : n ≤ 9223372036854775807) (hs : ∀ x ∈ l, x.size ≤ 9223372036854775807) (hnc : n ≤ c) (hG : Glob w) :
 Calls Tryd.prog 3 #[.slice a n c, .int .i64 leave] w fun e w' => e = .returned (.bool true) ∧ Below w.heap.size w w' := by
 have HL := Lib.hid hl
 have HN := Lib.hid hn
 have HSZ := Lib.hid hs
 have HNC := Lib.hid hnc
 have G := Lib.hid hG
 have EQ := Lib.hid (fun W env => eql_func (P := Tryd.prog) (t := 29) Tryd.underlying29 (.func 32) #[] env W)
 clear hl hn hs hnc hG
 refine (callsIn_wide (n := 6)).1 ?_
 refine callsIn_of_wp_marks Tryd.func3 rfl trivial ?_ rfl
 simp only [Tryd.ntmps3, List.size_toArray, List.length_cons, List.length_nil, Nat.reduceAdd, Nat.reduceSub, Array.replicate_succ, Array.replicate_zero, List.push_toArray, List.append_toArray, List.nil_append, List.cons_append]
 refine wpIn_wide.2 ?_
 have HC : Hid (Chain [w] w) := Lib.hid (Chain.one w)
 go_upto_region 1 with (fail)
 obtain ⟨s, hs⟩ : ∃ c, w.heap.size = c := ⟨_, rfl⟩
 try rw [hs]
 obtain ⟨wA, hwA⟩ : ∃ X, allocs w [.cells #[.slice a n c] 22, .cells #[.int .i64 leave] 3, .cells #[.bool false] 4] = X := ⟨_, rfl⟩
 rw [show ((w.alloc (.cells #[.slice a n c] 22)).alloc (.cells #[.int .i64 leave] 3)).alloc (.cells #[.bool false] 4) = wA from hwA]
 have hb : Below w.heap.size w wA := by rw [← hwA]; exact allocs_below _ _
 have HQ : Hid (wA.heap[s]? = some (.cells #[.slice a n c] 22 (0, 0))) := Lib.hid (by have := allocs_get [.cells #[.slice a n c] 22, .cells #[.int .i64 leave] 3, .cells #[.bool false] 4] w 0 _ rfl; rw [hwA, hs] at this; exact this)
 have HV : Hid (wA.heap[s + 1]? = some (.cells #[.int .i64 leave] 3 (0, 0))) := Lib.hid (by have := allocs_get [.cells #[.slice a n c] 22, .cells #[.int .i64 leave] 3, .cells #[.bool false] 4] w 1 _ rfl; rw [hwA, hs] at this; exact this)
 have HR : Hid (wA.heap[s + 1 + 1]? = some (.cells #[.bool false] 4 (0, 0))) := Lib.hid (by have := allocs_get [.cells #[.slice a n c] 22, .cells #[.int .i64 leave] 3, .cells #[.bool false] 4] w 2 _ rfl; rw [hwA, hs] at this; exact this)
 have Ss : Hid (w.heap.size = s) := Lib.hid hs
 replace HC := Lib.hid (HC.out.push hb)
 clear hb hwA hs
 by_cases h200 : n ≤ 200
 case neg =>
  have h2i : (200 : Int) < (n : Int) := by omega
  have kQ0 := cell_of_one HQ.out
  go_wp2_with fail
  refine (known_05 _ (G.out.below (HC.out.to w (by simp)))).mono ?_
  rintro e w2 ⟨rfl, hb⟩
  clear kQ0
  replace HC := Lib.hid (HC.out.push hb)
  clear hb
  have kR0 := cell_of_one (boxStays HR.out (HC.out.to wA (by simp)))
  have fR0 := frozen_of_row _ (s + 1 + 1) 0 _ _ (boxStays HR.out (HC.out.to wA (by simp)))
  have HR2 := Lib.hid (Boxed.set (t := 4) (.bool true) (boxStays HR.out (HC.out.to wA (by simp))))
  have BW := Lib.hid ((HC.out.to w (by simp)).setCell (p := ⟨s + 1 + 1, 0, none⟩) (by have := Ss.out; show w.heap.size ≤ s + 1 + 1; omega) (.bool true))
  go_wp2_with fail
  try rw [Exit.noGoto_ret]
  show LeavesInM _ _ _ _ _ _ (marks []) _ _
  refine leaves_marks [] _ (by simp) (fun p hp => by cases hp) ?_
  intro W' e1 e2 e3 e4 e5
  have k9 := cell_of_one ((e5 _ (by simp)).trans HR2.out)
  have bW : Below w.heap.size w W' := ⟨e1.trans BW.out.os, e2.trans BW.out.tape, e3.trans BW.out.output, by rw [e4]; exact BW.out.size, fun k hk => (e5 k (by simp)).trans (BW.out.block k hk)⟩
  exact ⟨.bool true, by simp [results, Tryd.results3, go_sem, k9], rfl, bW⟩
 have h2i : ¬ (200 : Int) < (n : Int) := by omega
 have kQ0 := cell_of_one HQ.out
 go_upto_region 4 with (fail)
 clear kQ0
 go_wp2_with fail
 go_loopw [5] (fun i wr => ∃ j : Nat, i = .int .i64 (j : Int) ∧ j ≤ n ∧ Hid (∀ x ∈ l.take j, x.size ≤ 9000) ∧ wA = wr) (fun i _ => n - (intOf i).toNat)
 case atStart => exact ⟨0, rfl, Nat.zero_le _, Lib.hid (fun x hx => by simp at hx), rfl⟩
 case round =>
  obtain ⟨j, rfl, hj, HJ, rfl⟩ := hrel
  by_cases hlt : j < n
  · have hji : (j : Int) < (n : Int) := by omega
    have hjl : j < l.length := by have := HN.out; omega
    obtain ⟨ba, oa, ha, p0⟩ := tx_get (HL.out.below (HC.out.to w (by simp)) rfl) j hjl
    subst ha
    obtain ⟨x, hx⟩ : ∃ x, l[j] = x := ⟨_, rfl⟩
    rw [hx] at p0
    have HX : Hid (∀ y ∈ l.take (j + 1), y = x ∨ y ∈ l.take j) := Lib.hid (fun y hy => by
     rw [List.take_succ_eq_append_getElem hjl, hx] at hy
     rcases List.mem_append.1 hy with h | h
     · exact .inr h
     · exact .inl (by simpa using h))
    clear hx
    by_cases hz : x.size ≤ 9000
    · have hzi : ¬ (9000 : Int) < (x.size : Int) := by omega
      have kQ0 := cell_of_one HQ.out
      go_wp2_with fail
      go_roundw
      case rel => exact ⟨j + 1, by go_num, by omega, Lib.hid (fun y hy => by rcases HX.out y hy with rfl | h; exact hz; exact HJ.out y h), by first | trivial | rfl⟩
      case measure => simp [intOf]; omega
    · have hzi : (9000 : Int) < (x.size : Int) := by omega
      have kQ0 := cell_of_one HQ.out
      go_wp2_with fail
      refine (known_05 _ (G.out.below (HC.out.to w (by simp)))).mono ?_
      rintro e w2 ⟨rfl, hb⟩
      clear kQ0
      replace HC := Lib.hid (HC.out.push hb)
      clear hb
      have kR0 := cell_of_one (boxStays HR.out (HC.out.to wA (by simp)))
      have fR0 := frozen_of_row _ (s + 1 + 1) 0 _ _ (boxStays HR.out (HC.out.to wA (by simp)))
      have HR2 := Lib.hid (Boxed.set (t := 4) (.bool true) (boxStays HR.out (HC.out.to wA (by simp))))
      have BW := Lib.hid ((HC.out.to w (by simp)).setCell (p := ⟨s + 1 + 1, 0, none⟩) (by have := Ss.out; show w.heap.size ≤ s + 1 + 1; omega) (.bool true))
      go_wp2_with fail
      try rw [Exit.noGoto_ret]
      show LeavesInM _ _ _ _ _ _ (marks []) _ _
      refine leaves_marks [] _ (by simp) (fun p hp => by cases hp) ?_
      intro W' e1 e2 e3 e4 e5
      have k9 := cell_of_one ((e5 _ (by simp)).trans HR2.out)
      have bW : Below w.heap.size w W' := ⟨e1.trans BW.out.os, e2.trans BW.out.tape, e3.trans BW.out.output, by rw [e4]; exact BW.out.size, fun k hk => (e5 k (by simp)).trans (BW.out.block k hk)⟩
      exact ⟨.bool true, by simp [results, Tryd.results3, go_sem, k9], rfl, bW⟩
  · obtain rfl : j = n := by omega
    have HS9 : Hid (∀ x ∈ l, x.size ≤ 9000) := Lib.hid (fun x hx => HJ.out x (by rw [List.take_of_length_le (by rw [← HN.out]; exact Nat.le_refl _)]; exact hx))
    clear HJ hj hlt
    have kQ0 := cell_of_one HQ.out
    go_wp2_with fail
    have SA : Hid (w.heap.size ≤ wA.heap.size) := Lib.hid (HC.out.to w (by simp)).size
    have ZA : Hid (s + 1 + 1 < wA.heap.size) := Lib.hid (Array.getElem?_eq_some_iff.1 HR.out).1
    refine (law5_copied l a j c _ (HL.out.below (HC.out.to w (by simp)) rfl) HN.out (by omega)).mono ?_
    rintro e w3 ⟨g, k, rfl, hg, hk, hown, hb⟩
    clear kQ0
    replace HC := Lib.hid (HC.out.push hb)
    clear hb
    have HG0 := Lib.hid (And.intro hg hk)
    have CM : Hid (CellsAt w3 (some ⟨g, 0, none⟩) (txV l)) := Lib.hid (by
     have h1 := (CellsAt.ownN hown).take j
     have h2 : (txV (l ++ [markB])).take j = txV l := by unfold txV; rw [List.map_append, List.take_left' (by rw [List.length_map]; exact HN.out.symm)]
     rw [h2] at h1
     exact h1)
    have OW := Lib.hid hown
    have LG : Hid (g < w3.heap.size) := Lib.hid (by rcases hown.2 with ⟨h0, _⟩ | ⟨g', cap, cur, h0, h1, h2, _⟩; cases h0; cases h0; exact (Array.getElem?_eq_some_iff.1 h2).1)
    clear hown hg hk
    obtain ⟨pg, hpg⟩ : ∃ b, pathG l = b := ⟨_, rfl⟩
    obtain ⟨rs, hrs⟩ : ∃ r, (if pg = true then joinB l else ⟨#[]⟩) = r := ⟨_, rfl⟩
    obtain ⟨re, hre⟩ : ∃ r : Int, (if pg = true then 0 else 2) = r := ⟨_, rfl⟩
    have JN : Hid (∀ W, Below w3.heap.size w3 W → Calls Tryd.prog 8 #[.slice (some ⟨g, 0, none⟩) j k] W fun e w' => e = .returned (.tuple #[.string rs, .int .i64 re]) ∧ Below W.heap.size W w') := Lib.hid (fun W hW => by rw [← hrs, ← hre, ← hpg]; exact key_Join l _ j k W (CM.out.below hW rfl) HN.out HSZ.out (G.out.below ((HC.out.to w (by simp)).trans (hW.mono (HC.out.to w (by simp)).size))))
    have PA : Hid (∀ W, Below w3.heap.size w3 W → Calls Tryd.prog 10 #[.slice (some ⟨g, 0, none⟩) j k] W fun e w' => e = .returned (.bool pg) ∧ Below W.heap.size W w') := Lib.hid (fun W hW => by rw [← hpg]; exact key_Path l _ j k W (CM.out.below hW rfl) HN.out HSZ.out (G.out.below ((HC.out.to w (by simp)).trans (hW.mono (HC.out.to w (by simp)).size))))
    have RP : Hid (∀ W, Below w3.heap.size w3 W → Calls Tryd.prog 11 #[.slice a j c] W fun e w' => e = .returned (.bool pg) ∧ Below W.heap.size W w') := Lib.hid (fun W hW => by rw [← hpg]; exact ref5_Path l _ j c W ((HL.out.below (HC.out.to w (by simp)) rfl).below hW rfl) HN.out)
    have HPG := Lib.hid hpg
    have RS := Lib.hid hrs
    have RE := Lib.hid hre
    clear hpg hrs hre
    go_wp2_with fail
    refine (JN.out _ (HC.out.to w3 (by simp))).mono ?_
    rintro e w4 ⟨rfl, hb⟩
    replace HC := Lib.hid (HC.out.push hb)
    clear hb
    have LG4 : Hid (g < w4.heap.size) := Lib.hid (by have h1 := LG.out; have h2 := (HC.out.to w3 (by simp)).size; omega)
    go_wp2_with fail
    refine (key_Fronts l (some ⟨g, 0, none⟩) j k _ (CM.out.below (HC.out.to w3 (by simp)) rfl) HN.out (by omega)).mono ?_
    rintro e w5 ⟨z, ar, cr, rfl, hfr, hz, hzr, hb⟩
    replace HC := Lib.hid (HC.out.push hb)
    clear hb
    have FR5 := Lib.hid hfr
    have ZG : Hid (g < z ∧ ∀ ad, ar = some ad → g < ad.block) := Lib.hid ⟨by have h1 := LG4.out; omega, fun ad had => by have h0 := hzr ad had; have h1 := LG4.out; omega⟩
    clear hfr hz hzr
    go_wp2_with fail
    refine (PA.out _ (HC.out.to w3 (by simp))).mono ?_
    rintro e w6 ⟨rfl, hb⟩
    replace HC := Lib.hid (HC.out.push hb)
    clear hb
    have WG : Hid (w.heap.size ≤ g ∧ s + 1 + 1 < g) := Lib.hid (by have h1 := HG0.out.1; have h2 := SA.out; have h3 := ZA.out; omega)
    have OW6 := Lib.hid (own_below OW.out (HC.out.to w3 (by simp)) (fun k hk => by cases hk; exact LG.out))
    go_upto_region 12 with (fail)
    go_cut [84] from 44 to 84 (fun u84 wx => u84 = .bool false ∧ Hid (FrAt wx l z ar j cr) ∧ Hid (wx.heap[s]? = some (.cells #[.slice a j c] 22 (0, 0))) ∧ Hid (wx.heap[s + 1]? = some (.cells #[.int .i64 leave] 3 (0, 0))) ∧ Hid (wx.heap[s + 1 + 1]? = some (.cells #[.bool false] 4 (0, 0))) ∧ Hid (Below w.heap.size w wx))
    case first =>
     have EQ6 := EQ.out
     have kQ0 := cell_of_one (boxStays HQ.out (HC.out.to wA (by simp)))
     go_wp2_with fail
     refine (RP.out _ (HC.out.to w3 (by simp))).mono ?_
     rintro e w7 ⟨rfl, hb⟩
     clear kQ0
     replace HC := Lib.hid (HC.out.push hb)
     clear hb
     have kQ0 := cell_of_one (boxStays HQ.out (HC.out.to wA (by simp)))
     go_wp2_with fail
     refine (law5_left l a j c g k _ w7 (own_below OW.out (HC.out.to w3 (by simp)) (fun k hk => by cases hk; exact LG.out)) (HL.out.below (HC.out.to w (by simp)) rfl) (fun ad h0 had => ?_) HN.out (by omega) HG0.out.2).mono ?_
     · obtain ⟨ba, oa, e, p0⟩ := tx_get HL.out 0 (by rw [← HN.out]; exact h0)
       rw [had] at e
       cases e
       have h1 : ba < w.heap.size := block_lt_of_cell p0
       have h2 := WG.out.1
       show ba ≠ g
       exact fun e => by subst e; omega
     rintro e w8 ⟨rfl, hgr⟩
     have B8 := Lib.hid ((HC.out.to w (by simp)).grown hgr (HC.out.to w (by simp)).size (fun k hk => by cases hk; exact WG.out.1))
     have FR8 : Hid (FrAt w8 l z ar j cr) := Lib.hid (fr_kept FR5.out (Nat.le_trans (HC.out.to w5 (by simp)).size hgr.size)
      ((hgr.block z (Nat.lt_of_lt_of_le (Array.getElem?_eq_some_iff.1 FR5.out.box).1 (HC.out.to w5 (by simp)).size) (fun e => by have h1 := ZG.out.1; have h2 := Option.some.inj e; omega)).trans ((HC.out.to w5 (by simp)).block z (Array.getElem?_eq_some_iff.1 FR5.out.box).1))
      (fun ad had => (hgr.block ad.block (Nat.lt_of_lt_of_le (FR5.out.ne ad had).2 (HC.out.to w5 (by simp)).size) (fun e => by have h1 := ZG.out.2 ad had; have h2 := Option.some.inj e; omega)).trans ((HC.out.to w5 (by simp)).block ad.block (FR5.out.ne ad had).2)))
     have X1 : Hid (w8.heap[s]? = some (.cells #[.slice a j c] 22 (0, 0))) := Lib.hid (grow_keep hgr (boxStays HQ.out (HC.out.to wA (by simp))) (fun e => by have h1 := WG.out.2; have h2 := Option.some.inj e; omega))
     have X2 : Hid (w8.heap[s + 1]? = some (.cells #[.int .i64 leave] 3 (0, 0))) := Lib.hid (grow_keep hgr (boxStays HV.out (HC.out.to wA (by simp))) (fun e => by have h1 := WG.out.2; have h2 := Option.some.inj e; omega))
     have X3 : Hid (w8.heap[s + 1 + 1]? = some (.cells #[.bool false] 4 (0, 0))) := Lib.hid (grow_keep hgr (boxStays HR.out (HC.out.to wA (by simp))) (fun e => by have h1 := WG.out.2; have h2 := Option.some.inj e; omega))
     clear HC HQ HV HR hgr
     have HC : Hid (Chain [w8] w8) := Lib.hid (Chain.one w8)
     have HQ := X1
     cases pg
     case' true =>
      obtain rfl : joinB l = rs := by rw [← RS.out]; rfl
      obtain rfl : (0 : Int) = re := by rw [← RE.out]; rfl
      have kQ0 := cell_of_one HQ.out
      go_wp2_with fail
      refine (ref5_JoinB l a j c _ ((HL.out.below B8.out rfl).below (HC.out.to w8 (by simp)) rfl) HN.out HPG.out).mono ?_
      rintro e w9 ⟨rfl, hb⟩
      clear kQ0
      replace HC := Lib.hid (HC.out.push hb)
      clear hb
      go_wp2_with fail
      refine (num_05b 0 _).mono ?_
      rintro e w10 ⟨rfl, hb⟩
      replace HC := Lib.hid (HC.out.push hb)
      clear hb
      have BB := Lib.hid (HC.out.to w8 (by simp))
     case' false =>
      obtain rfl : (⟨#[]⟩ : ByteArray) = rs := by rw [← RS.out]; rfl
      obtain rfl : (2 : Int) = re := by rw [← RE.out]; rfl
      have kQ0 := cell_of_one HQ.out
      go_wp2_with fail
      refine (num_05b 2 _).mono ?_
      rintro e w10 ⟨rfl, hb⟩
      clear kQ0
      replace HC := Lib.hid (HC.out.push hb)
      clear hb
      have BB := Lib.hid (HC.out.to w8 (by simp))
     all_goals
      go_wp2_with fail
      go_meet
      exact ⟨rfl, Lib.hid (fr_kept FR8.out BB.out.size (BB.out.block z (Array.getElem?_eq_some_iff.1 FR8.out.box).1) (fun ad had => BB.out.block ad.block (FR8.out.ne ad had).2)), Lib.hid (boxStays X1.out BB.out), Lib.hid (boxStays X2.out BB.out), Lib.hid (boxStays X3.out BB.out), Lib.hid (B8.out.trans (BB.out.mono B8.out.size))⟩
    case rest =>
     obtain ⟨rfl, FR, X1, X2, X3, BW⟩ := hcut
     obtain ⟨w8, rfl⟩ : ∃ x : World, x = wc := ⟨_, rfl⟩
     clear JN PA RP HPG RS RE OW6 OW CM LG LG4 HG0 WG ZG SA ZA HC HQ HV HR FR5 HS9 h2i
     go_wp2_with fail
     obtain ⟨B0, hB0⟩ : ∃ b, w8.heap.size = b := ⟨_, rfl⟩
     rw [hB0]
     have HB0 := Lib.hid hB0
     have B7 : Hid (Below B0 w8 (w8.alloc (.cells #[.int .i64 0] 3))) := Lib.hid (by rw [← hB0]; exact below_new _ _)
     have T7 : Hid (Boxed (w8.alloc (.cells #[.int .i64 0] 3)) B0 3 (.int .i64 ((0 : Nat) : Int))) := Lib.hid (by rw [← hB0]; exact Boxed.new _ _ _)
     have SB : Hid (s + 1 + 1 < B0 ∧ z < B0 ∧ w.heap.size ≤ B0) := Lib.hid (by rw [← hB0]; exact ⟨(Array.getElem?_eq_some_iff.1 X3.out).1, (Array.getElem?_eq_some_iff.1 FR.out.box).1, BW.out.size⟩)
     have hT7 : B0 < (w8.alloc (.cells #[.int .i64 0] 3)).heap.size := by rw [World.size_alloc]; omega
     clear hB0
     refine (wpIn_wide (n := 6)).1 ?_
     refine wpIn_loop (fun a' w1 => ∃ (u T : Nat) (Ds : List Nat), a' = { tmps := ptT (fun i => a'.tmps.getD i undef) s z T, defers := Ds.map fun D => { target := .collected D, args := #[] } } ∧ Ds.length = u ∧ u ≤ 2 ∧ B0 ≤ T ∧ T < w1.heap.size ∧ Hid (Boxed w1 T 3 (.int .i64 (u : Int))) ∧ Hid (Facts (markF Ds) w1) ∧ Ds.Nodup ∧ (∀ D ∈ Ds, B0 ≤ D) ∧ Hid (Below B0 w8 w1)) (fun a' _ => 2 - a'.defers.length) ⟨0, B0, [], rfl, rfl, by omega, Nat.le_refl _, hT7, T7, Lib.hid (fun p hp => by cases hp), List.nodup_nil, by simp, B7⟩ ?_
     clear B7 T7 hT7
     rintro a' w1 ⟨u, T, Ds, he, hlen, hu, hT, hTl, HT, HF, hnd, hD4, HB⟩
     generalize (fun i => a'.tmps.getD i undef) = g9 at he
     subst he
     simp only [ptT]
     have eT := cell_of_one HT.out
     by_cases hu2 : u < 2
     · have hui : (u : Int) < 2 := by omega
       gi_wp2
       clear eT
       obtain ⟨c9, hc9⟩ : ∃ c, c = w1.heap.size := ⟨_, rfl⟩
       rw [← hc9]
       obtain ⟨W8, hW8⟩ : ∃ W8, w1.alloc (.cells #[.int .i64 0] 3) = W8 := ⟨_, rfl⟩
       rw [hW8]
       have g8 : Boxed W8 c9 3 (.int .i64 ((([] : List FX).length : Nat) : Int)) := by rw [← hW8, hc9]; exact Boxed.new _ _ _
       have hb8 : Below w1.heap.size w1 W8 := by rw [← hW8]; exact below_new _ _
       have z8 : W8.heap.size = c9 + 1 := by rw [← hW8, hc9]; simp
       have hB1 : B0 ≤ w1.heap.size := by have := HB.out.size; have := HB0.out; omega
       have D8 : Below B0 w8 W8 := HB.out.trans (hb8.mono hB1)
       have hDc : ∀ D ∈ Ds, D < c9 := fun D h => by rw [hc9]; exact (HF.out.lt (D, .deferred (some [])) (List.mem_map.2 ⟨D, h, rfl⟩))
       have I8 : PtI c9 T u B0 Ds w8 [] W8 := ⟨g8, boxStays HT.out hb8, HF.out.below hb8, D8⟩
       have hBc : B0 ≤ c9 := by omega
       have hTc : T < c9 := by omega
       have FR8 : FrAt W8 l z ar j cr := fr_kept FR.out D8.size (D8.block z SB.out.2.1) (fun ad had => D8.block ad.block (by have h1 := (FR.out.ne ad had).2; have := HB0.out; omega))
       have SD : Hid (∀ k, (k = z ∨ ∃ ad, ar = some ad ∧ ad.block = k) → k < B0) := Lib.hid (fun k hk => by
        rcases hk with rfl | ⟨ad, had, rfl⟩
        · exact SB.out.2.1
        · have h1 := (FR.out.ne ad had).2; have := HB0.out; omega)
       clear hW8 hb8 hc9 g8
       have hSd := SD.out
       have HIter := fronts1_iter 5 (by omega) l z ar j cr W8 FR8 (by omega) W8.heap.size (fun k => k = z ∨ ∃ ad, ar = some ad ∧ ad.block = k) (Nat.le_refl _) (fun k hk => by have := hSd k hk; omega) (.inl rfl) (fun ad had => .inr ⟨ad, had, rfl⟩)
       have HB00 : B0 ≤ w8.heap.size := Nat.le_of_eq HB0.out.symm
       have OWN : OwnFrom W8.heap.size (PtI c9 T u B0 Ds w8) := ptI_own HB00 (by omega) (by omega) (by omega) (fun D h => by have := hDc D h; omega)
       refine range_law2 (n := 6) rfl (enters_of Tryd.func32 (by kernel_rfl) rfl) HIter (by omega) KeepU.trans (fun W o o' _ _ => KeepU.put (N := W8.heap.size) W _ o' (by omega) (fun k hk => by have := hSd k hk; omega)) (fun x => rfl) (fun pre => FrX_own _ _ _ pre) ?_ (PtI c9 T u B0 Ds w8) (fun code pre W => code = .exit 4 ∧ u = 0 ∧ (pre.length : Int) = leave ∧ pre.length ≤ j ∧ PtI c9 T u B0 Ds w8 pre W) (fun ys W => ys.length = l.length ∧ PtI c9 T u B0 Ds w8 ys W) OWN ?_ ?_ ?_ I8
        (fun pre x a' W => PtI c9 T u B0 Ds w8 pre W ∧ FrX l W8.heap.size pre x W ∧ a' = { tmps := #[g9 0, g9 1, .pointer (some ⟨s, 0, none⟩), .pointer (some ⟨s + 1, 0, none⟩), .pointer (some ⟨s + 1 + 1, 0, none⟩), g9 5, g9 6, g9 7, g9 8, .func (.func 32) #[] #[.pointer (some ⟨z, 0, none⟩)], g9 10, .pointer (some ⟨T, 0, none⟩), .pointer (some ⟨c9, 0, none⟩), .slice x.a x.n x.c, .string x.k, g9 15, g9 16, g9 17, g9 18, g9 19, g9 20, g9 21, g9 22, g9 23, g9 24, g9 25, g9 26, g9 27, g9 28, g9 29, g9 30, g9 31, g9 32, g9 33, g9 34, g9 35, g9 36, g9 37, g9 38, g9 39, g9 40, g9 41, g9 42, g9 43, g9 44, g9 45, g9 46, g9 47, g9 48, g9 49, g9 50, g9 51, g9 52, g9 53, g9 54, g9 55, g9 56, g9 57, g9 58, g9 59, g9 60, g9 61, g9 62, g9 63, g9 64, g9 65, g9 66, g9 67, g9 68, g9 69, g9 70, g9 71, g9 72, g9 73, g9 74, g9 75, g9 76, g9 77, g9 78, g9 79, g9 80, g9 81, g9 82, g9 83, g9 84, .int .i64 (u : Int), .bool true, g9 87, g9 88, .func (.func 32) #[] #[.pointer (some ⟨z, 0, none⟩)], .slice x.a x.n x.c, .string x.k, g9 92, g9 93, g9 94, g9 95, g9 96, g9 97, g9 98, g9 99, g9 100, g9 101, g9 102, g9 103, g9 104, g9 105, g9 106, g9 107, g9 108, g9 109, g9 110, g9 111, g9 112, g9 113, g9 114, g9 115, g9 116, g9 117, g9 118, g9 119, g9 120, g9 121, g9 122, g9 123, g9 124, g9 125, g9 126, g9 127, g9 128, g9 129, g9 130, g9 131, g9 132, g9 133, g9 134, g9 135, g9 136, g9 137, g9 138, g9 139, g9 140, g9 141, g9 142, g9 143, g9 144, g9 145, g9 146, g9 147, g9 148, g9 149, g9 150, g9 151, g9 152, g9 153, g9 154], defers := [] }) ?_ ?assign ?body ?done ?stop
       · rintro W1 _ ys A B ⟨_, rfl⟩ k o _ ho _; exact ho
       · rintro code pre A A' row ⟨h1, h2, h3, h4, h5⟩ hg hr; exact ⟨h1, h2, h3, h4, OWN pre A A' row h5 hg hr⟩
       · rintro ys A A' row ⟨h1, h2⟩ hg hr; exact ⟨h1, OWN ys A A' row h2 hg hr⟩
       · rintro W1 _ ys A B h ⟨h1, rfl⟩; exact ⟨h1, h⟩
       · rintro x a' pre A A' row ⟨h1, h2, h3⟩ hg hr
         exact ⟨OWN pre A A' row h1 hg hr, FrX_own _ _ _ pre x A A' row h2 hg hr, h3⟩
       case assign =>
        intro ll pre x W K hi hx hsz hK
        have HI := Lib.hid hi
        have HX := Lib.hid hx
        clear hi hx HIter I8 FR8 D8
        simp only [encFX, List.zip_toArray, List.zip_cons_cons, List.zip_nil_right, List.foldl_toArray, List.foldl_cons, List.foldl_nil]
        gi_wp2
        exact hK _ _ (KeepsFrom.refl _ _) (KeepU.refl _ _) hsz ⟨HI.out, HX.out, rfl⟩
       case body =>
        clear HIter I8 FR8 D8
        rintro ll pre x a' W ⟨hI, hX, rfl⟩ hsz
        obtain ⟨hpl, hxk, hxn, Bx, hBx, how, hxc⟩ := hX
        have hpj : pre.length < j := by have := HN.out; omega
        obtain ⟨q, hq⟩ : ∃ q, pre.length = q := ⟨_, rfl⟩
        have HI := Lib.hid hI
        have HOW := Lib.hid how
        have HBX := Lib.hid hBx
        have HQL : Hid (q < l.length) := Lib.hid (by rw [← hq]; exact hpl)
        have HXK : Hid (x.k = l[q]'HQL.out) := Lib.hid (by subst hq; exact hxk hpl)
        have HXN : Hid (x.n = q) := Lib.hid (by rw [hxn]; exact hq)
        have HQ := Lib.hid hq
        have BWW : Hid (Below w.heap.size w W) := Lib.hid (BW.out.trans (hI.bel.mono SB.out.2.2))
        have eC := cell_of_one hI.cnt
        have eT := cell_of_one hI.trn
        have e1 : W.cell? ⟨s, 0, none⟩ = some (.slice a j c) := cell_of_one (t := 22) ((hI.bel.block s (by have := SB.out.1; omega)).trans X1.out)
        rw [hq] at eC hpj
        clear hI hpl hxk hxn hBx how hq
        obtain ⟨ba, oa, ha, p0⟩ := tx_get (HL.out.below BWW.out rfl) q HQL.out
        subst ha
        rw [← HXK.out] at p0
        have hnle : ¬ j ≤ q := by omega
        have hdle : decide (j ≤ q) = false := by simp; omega
        have hji : (q : Int) < (j : Int) := by omega
        have hsl : ∀ W, (Instr.slice 22 (.slice (some ⟨ba, oa, none⟩) j c) none (some (.int .i64 (q : Int))) none).run Tryd.prog W = .ok (.slice (some ⟨ba, oa, none⟩) q c) W := fun W => run_uptoA W 22 9 Tryd.underlying22 1 (fun w => by kernel_rfl) _ j c q (by have := HNC.out; omega)
        have TK : Hid (CellsAt W (some ⟨ba, oa, none⟩) (txV (l.take q))) := Lib.hid (by
         have h := (HL.out.below BWW.out rfl).take q
         have e : (txV l).take q = txV (l.take q) := by unfold txV; rw [List.map_take]
         rw [e] at h
         exact h)
        gi_wp2
        refine ⟨trivial, ?_⟩
        refine (CallsIn.inRound ll (callsIn_wide.2 (ref5_Same (l.take q) (l.take q) x.a (some ⟨ba, oa, none⟩) x.n q x.c c W (by have h := CellsAt.ownN HOW.out; rw [HQ.out] at h; exact h) TK.out (by rw [HXN.out, List.length_take]; have := HQL.out; omega) (by rw [List.length_take]; have := HQL.out; omega) (by rw [HXN.out]; omega) (fun y hy => HSZ.out y (List.mem_of_mem_take hy)) (fun y hy => HSZ.out y (List.mem_of_mem_take hy))))).mono ?_
        rintro e W2 ⟨rfl, hb2⟩
        rw [show decide (pathC (l.take q) (l.take q) = 0) = true from decide_eq_true (pathO.self _)]
        have HB2 := Lib.hid hb2
        clear hsl e1 p0 eC eT hdle hb2
        gi_wp2
        have HI2 := Lib.hid (HI.out.below HB2.out (by omega))
        have HO2 := Lib.hid (own_below (by have h := HOW.out; rw [HQ.out] at h; exact h) HB2.out (fun k hk => (HOW.out.lt k hk).2))
        have hz2 : W8.heap.size ≤ W2.heap.size := by have := HB2.out.size; omega
        have KF2 : Hid (KeepsFrom W8.heap.size W W2) := Lib.hid ⟨HB2.out.size, fun k o _ h _ => boxStays h HB2.out⟩
        have KU2 : Hid (KeepU (fun k => k = z ∨ ∃ ad, ar = some ad ∧ ad.block = k) W W2) := Lib.hid (KeepU.below HB2.out (fun k hk => by have := hSd k hk; omega))
        have XC : Hid (x.n ≤ 200) := Lib.hid (by rw [HXN.out]; omega)
        have XSt : Hid (∀ y ∈ txV (l.take q), ∃ b, y = .string b) := Lib.hid (fun y hy => by obtain ⟨b, _, rfl⟩ := List.mem_map.1 hy; exact ⟨b, rfl⟩)
        clear HB2 TK BWW
        gi_loopw [15] (fun i wr => ∃ (r : Nat) (xs : List Value), i = .int .i64 (r : Int) ∧ r ≤ x.n ∧ Hid (xs.length = x.n) ∧ Hid (wr.ownsRow Bx 9 1 (.slice x.a x.n x.c) x.n xs) ∧ Hid (W2.grownBy wr (Value.slice x.a x.n x.c).ownBlock)) (fun i _ => x.n - (intOf i).toNat)
        case atStart => exact ⟨0, _, rfl, Nat.zero_le _, Lib.hid (by have h := HO2.out.1; simpa using h), HO2, Lib.hid ⟨rfl, rfl, rfl, Nat.le_refl _, fun _ _ _ => rfl⟩⟩
        case round =>
         obtain ⟨r, xs, rfl, hr, HXL, HOR, HGR⟩ := hrel
         by_cases hrl : r < x.n
         · have hri : (r : Int) < (x.n : Int) := by omega
           have hrx : r < xs.length := by rw [HXL.out]; exact hrl
           obtain ⟨gg, hg, _, hcell, hfz, _⟩ := own_cell HOR.out r (xs[r]'hrx) (List.getElem?_eq_getElem hrx)
           have hgb : (Value.slice x.a x.n x.c).ownBlock = some gg := by rw [hg]; rfl
           have HGB := Lib.hid hgb
           have hown2 := HOR.out
           rw [hg] at hown2
           have HO3 := Lib.hid (own_set hown2 r (.string ⟨#[115, 112, 111, 105, 108, 116]⟩))
           have HG3 : Hid (wr.grownBy (wr.setCell ⟨gg, r, none⟩ (.string ⟨#[115, 112, 111, 105, 108, 116]⟩)) (some gg)) := Lib.hid (grown_set wr gg r _)
           have hf := hfz r
           rw [← hg] at HO3
           generalize hvv : xs[r]'hrx = vv at hcell
           clear hvv hfz hown2 hgb
           have ha9 := hg
           have hpw : IntKind.i64.wrap ((r : Int) + 1) = (r : Int) + 1 := by rw [IntKind.wrap_i64]; have := XC.out; omega
           gi_wp2
           refine ⟨⟨r + 1, xs.set r (.string ⟨#[115, 112, 111, 105, 108, 116]⟩), by simp, by omega, Lib.hid (by simpa using HXL.out), HO3, Lib.hid ?_⟩, ?_⟩
           · exact grown_tr HGR.out (by rw [HGB.out]; exact HG3.out)
           · have q1 : (intOf (Value.int .i64 ((r : Int) + 1))).toNat = r + 1 := by simp [intOf]
             have q2 : (intOf (Value.int .i64 (r : Int))).toNat = r := by simp [intOf]
             rw [q1, q2]; omega
         · have hri : ¬ (r : Int) < (x.n : Int) := by omega
           have hBc9 : c9 < Bx := by have := HBX.out; omega
           have HI3 := Lib.hid (HI2.out.row HGR.out HO2.out hBc9 (by omega) (fun D h => by have := hDc D h; omega) (by omega) (by omega))
           have hz3 : W8.heap.size ≤ wr.heap.size := Nat.le_trans hz2 HGR.out.size
           have KF3 : Hid (KeepsFrom W8.heap.size W wr) := Lib.hid (KF2.out.trans (keepsFrom_row HGR.out HO2.out))
           have KU3 : Hid (KeepU (fun k => k = z ∨ ∃ ad, ar = some ad ∧ ad.block = k) W wr) := Lib.hid (KU2.out.trans (keepU_row HGR.out HO2.out (fun k hk => by have := hSd k hk; omega)))
           have eC := cell_of_one HI3.out.cnt
           have fC := HI3.out.cnt.frozen
           have eT := cell_of_one HI3.out.trn
           have e2 : wr.cell? ⟨s + 1, 0, none⟩ = some (.int .i64 leave) := cell_of_one (t := 3) ((HI3.out.bel.block (s + 1) (by have := SB.out.1; omega)).trans X2.out)
           rw [HQ.out] at eC
           have hpw : IntKind.i64.wrap ((q : Int) + 1) = (q : Int) + 1 := by rw [IntKind.wrap_i64]; omega
           have t1 : (wr.setCell ⟨c9, 0, none⟩ (.int .i64 ((q : Int) + 1))).cell? ⟨T, 0, none⟩ = some (.int .i64 (u : Int)) := cell_of_one ((Below.heap_setCell _ _ _ _ (by simp; omega)).trans HI3.out.trn)
           have t2 : (wr.setCell ⟨c9, 0, none⟩ (.int .i64 ((q : Int) + 1))).cell? ⟨s + 1, 0, none⟩ = some (.int .i64 leave) := cell_of_one (t := 3) ((Below.heap_setCell _ _ _ _ (by simp; have := SB.out.1; omega)).trans ((HI3.out.bel.block (s + 1) (by have := SB.out.1; omega)).trans X2.out))
           have t3 : (wr.setCell ⟨c9, 0, none⟩ (.int .i64 ((q : Int) + 1))).cell? ⟨c9, 0, none⟩ = some (.int .i64 ((q : Int) + 1)) := (HI3.out.cnt.set _).cell
           have KF : Hid (KeepsFrom W8.heap.size W (wr.setCell ⟨c9, 0, none⟩ (.int .i64 ((q : Int) + 1)))) := Lib.hid (KF3.out.trans ((KeepsOthers.setCell _ _ _).from _))
           have KE : Hid (KeepU (fun k => k = z ∨ ∃ ad, ar = some ad ∧ ad.block = k) W (wr.setCell ⟨c9, 0, none⟩ (.int .i64 ((q : Int) + 1)))) := Lib.hid (KU3.out.trans ⟨rfl, rfl, rfl, by simp [World.setCell], fun k hk => Below.heap_setCell _ _ _ _ (by have := hSd k hk; simp; omega)⟩)
           have GG : Hid (PtI c9 T u B0 Ds w8 (pre ++ [x]) (wr.setCell ⟨c9, 0, none⟩ (.int .i64 ((q : Int) + 1)))) := Lib.hid ⟨by rw [List.length_append, HQ.out]; simpa using HI3.out.cnt.set (.int .i64 ((q : Int) + 1)), (Below.heap_setCell _ _ _ _ (by simp; omega)).trans HI3.out.trn, HI3.out.mrk.setCell (fun p hp => by obtain ⟨D, hD', rfl⟩ := List.mem_map.1 hp; have := hDc D hD'; show D ≠ c9; omega) _, HI3.out.bel.setCell (p := ⟨c9, 0, none⟩) (by show B0 ≤ c9; omega) _⟩
           have hu01 : u = 0 ∨ u = 1 := by omega
           clear hz3 KF2 KU2 HGR HOR HXL HI2 HO2
           rw [z8] at KF
           rcases hu01 with rfl | rfl
           · by_cases hlv : (q : Int) + 1 = leave
             · subst hlv
               gi_wp2
               exact ⟨KF.out, KE.out, by simp, by rw [List.length_append, HQ.out]; simp, by rw [List.length_append, HQ.out]; simp; omega, GG.out⟩
             · gi_wp2
               exact ⟨KF.out, KE.out, GG.out⟩
           · gi_wp2
             exact ⟨KF.out, KE.out, GG.out⟩
       case done =>
        clear HIter I8 FR8 D8
        rintro D ys W1 hD ⟨hys, hI⟩ hK
        have hyj : ys.length = j := by rw [HN.out]; exact hys
        have eC := cell_of_one hI.cnt
        have eT := cell_of_one hI.trn
        have e1 : W1.cell? ⟨s, 0, none⟩ = some (.slice a j c) := cell_of_one (t := 22) ((hI.bel.block s (by have := SB.out.1; omega)).trans X1.out)
        rw [hyj] at eC
        have HI := Lib.hid hI
        have HKD := Lib.hid hK
        clear hI hK hys hyj
        simp only [Exit.inBlock]
        have hu01 : u = 0 ∨ u = 1 := by omega
        rcases hu01 with rfl | rfl
        · gi_wp2
          have hDl : D < W1.heap.size := (Array.getElem?_eq_some_iff.1 HKD.out).1
          have NEW : Hid (Facts (markF (D :: Ds)) (W1.alloc (.cells #[.int .i64 1] 3))) := Lib.hid (by
           have f := HI.out.mrk.below (below_new W1 (.cells #[.int .i64 1] 3))
           intro p hp
           rcases List.mem_cons.1 (show p ∈ (D, Obj.deferred (some [])) :: markF Ds from hp) with rfl | h
           · exact ((below_new W1 (.cells #[.int .i64 1] 3)).block _ hDl).trans HKD.out
           · exact f p h)
          have B9 := Lib.hid (HI.out.bel.trans ((below_new W1 (.cells #[.int .i64 1] 3)).mono (by have := HI.out.bel.size; omega)))
          refine ⟨⟨(0+1), W1.heap.size, D :: Ds, rfl, by simp [hlen], by omega, by have := HI.out.bel.size; omega, by rw [World.size_alloc]; omega, Lib.hid (Boxed.new W1 3 (.int .i64 1)), NEW, List.nodup_cons.2 ⟨fun h => by have := hDc D h; omega, hnd⟩, fun D' h => ?_, B9⟩, ?_⟩
          · rcases List.mem_cons.1 h with rfl | h
            · omega
            · exact hD4 D' h
          · simp [hlen] <;> omega
        · gi_wp2
          have hDl : D < W1.heap.size := (Array.getElem?_eq_some_iff.1 HKD.out).1
          have NEW : Hid (Facts (markF (D :: Ds)) (W1.alloc (.cells #[.int .i64 2] 3))) := Lib.hid (by
           have f := HI.out.mrk.below (below_new W1 (.cells #[.int .i64 2] 3))
           intro p hp
           rcases List.mem_cons.1 (show p ∈ (D, Obj.deferred (some [])) :: markF Ds from hp) with rfl | h
           · exact ((below_new W1 (.cells #[.int .i64 2] 3)).block _ hDl).trans HKD.out
           · exact f p h)
          have B9 := Lib.hid (HI.out.bel.trans ((below_new W1 (.cells #[.int .i64 2] 3)).mono (by have := HI.out.bel.size; omega)))
          refine ⟨⟨(1+1), W1.heap.size, D :: Ds, rfl, by simp [hlen], by omega, by have := HI.out.bel.size; omega, by rw [World.size_alloc]; omega, Lib.hid (Boxed.new W1 3 (.int .i64 2)), NEW, List.nodup_cons.2 ⟨fun h => by have := hDc D h; omega, hnd⟩, fun D' h => ?_, B9⟩, ?_⟩
          · rcases List.mem_cons.1 h with rfl | h
            · omega
            · exact hD4 D' h
          · simp [hlen] <;> omega
       case stop =>
        clear HIter I8 FR8 D8
        rintro D code pre W1 hD hSp ⟨rfl, hu0, hlv, hpj, hI⟩ hK
        subst hu0
        obtain ⟨q, hq⟩ : ∃ q, pre.length = q := ⟨_, rfl⟩
        have eC := cell_of_one hI.cnt
        have eT := cell_of_one hI.trn
        have e1 : W1.cell? ⟨s, 0, none⟩ = some (.slice a j c) := cell_of_one (t := 22) ((hI.bel.block s (by have := SB.out.1; omega)).trans X1.out)
        have e2 : W1.cell? ⟨s + 1, 0, none⟩ = some (.int .i64 leave) := cell_of_one (t := 3) ((hI.bel.block (s + 1) (by have := SB.out.1; omega)).trans X2.out)
        rw [hq] at eC hpj hlv
        have HI := Lib.hid hI
        have HKD := Lib.hid hK
        clear hI hK hq
        subst hlv
        by_cases hjn : q = j
        · subst hjn
          gi_wp2
          have hDl : D < W1.heap.size := (Array.getElem?_eq_some_iff.1 HKD.out).1
          have NEW : Hid (Facts (markF (D :: Ds)) (W1.alloc (.cells #[.int .i64 1] 3))) := Lib.hid (by
           have f := HI.out.mrk.below (below_new W1 (.cells #[.int .i64 1] 3))
           intro p hp
           rcases List.mem_cons.1 (show p ∈ (D, Obj.deferred (some [])) :: markF Ds from hp) with rfl | h
           · exact ((below_new W1 (.cells #[.int .i64 1] 3)).block _ hDl).trans HKD.out
           · exact f p h)
          have B9 := Lib.hid (HI.out.bel.trans ((below_new W1 (.cells #[.int .i64 1] 3)).mono (by have := HI.out.bel.size; omega)))
          refine ⟨⟨(0+1), W1.heap.size, D :: Ds, rfl, by simp [hlen], by omega, by have := HI.out.bel.size; omega, by rw [World.size_alloc]; omega, Lib.hid (Boxed.new W1 3 (.int .i64 1)), NEW, List.nodup_cons.2 ⟨fun h => by have := hDc D h; omega, hnd⟩, fun D' h => ?_, B9⟩, ?_⟩
          · rcases List.mem_cons.1 h with rfl | h
            · omega
            · exact hD4 D' h
          · simp [hlen] <;> omega
        · gi_wp2
          have hDl : D < W1.heap.size := (Array.getElem?_eq_some_iff.1 HKD.out).1
          have NEW : Hid (Facts (markF (D :: Ds)) (W1.alloc (.cells #[.int .i64 1] 3))) := Lib.hid (by
           have f := HI.out.mrk.below (below_new W1 (.cells #[.int .i64 1] 3))
           intro p hp
           rcases List.mem_cons.1 (show p ∈ (D, Obj.deferred (some [])) :: markF Ds from hp) with rfl | h
           · exact ((below_new W1 (.cells #[.int .i64 1] 3)).block _ hDl).trans HKD.out
           · exact f p h)
          have B9 := Lib.hid (HI.out.bel.trans ((below_new W1 (.cells #[.int .i64 1] 3)).mono (by have := HI.out.bel.size; omega)))
          refine ⟨⟨(0+1), W1.heap.size, D :: Ds, rfl, by simp [hlen], by omega, by have := HI.out.bel.size; omega, by rw [World.size_alloc]; omega, Lib.hid (Boxed.new W1 3 (.int .i64 1)), NEW, List.nodup_cons.2 ⟨fun h => by have := hDc D h; omega, hnd⟩, fun D' h => ?_, B9⟩, ?_⟩
          · rcases List.mem_cons.1 h with rfl | h
            · omega
            · exact hD4 D' h
          · simp [hlen] <;> omega
     · have hui : ¬ (u : Int) < 2 := by omega
       gi_wp2
       go_wp2_with fail
       have BWW : Hid (Below w.heap.size w w1) := Lib.hid (BW.out.trans (HB.out.mono SB.out.2.2))
       refine (known_05 _ (G.out.below BWW.out)).mono ?_
       rintro e W2 ⟨rfl, hb2⟩
       have hX3 : W2.heap[s + 1 + 1]? = some (.cells #[.bool false] 4 (0, 0)) := boxStays ((HB.out.block (s + 1 + 1) SB.out.1).trans X3.out) hb2
       have HX3 := Lib.hid (Boxed.set (t := 4) (.bool true) hX3)
       have e3 := cell_of_one hX3
       have f3 := frozen_of_row _ (s + 1 + 1) 0 _ _ hX3
       have MK := Lib.hid ((HF.out.below hb2).setCell (c := s + 1 + 1) (i := 0) (fun p hp => by obtain ⟨D, hD', rfl⟩ := List.mem_map.1 hp; have h1 := hD4 D hD'; have h2 := SB.out.1; show D ≠ s + 1 + 1; omega) (.bool true))
       have BF := Lib.hid ((BWW.out.trans (hb2.mono BWW.out.size)).setCell (p := ⟨s + 1 + 1, 0, none⟩) (by have := Ss.out; show w.heap.size ≤ s + 1 + 1; omega) (.bool true))
       have hDs : ∀ D ∈ Ds, s + 1 + 1 < D ∧ w.heap.size ≤ D := fun D h => by have h1 := hD4 D h; have h2 := SB.out; omega
       clear hb2 hX3 eT
       go_wp2_with fail
       try rw [Exit.noGoto_ret]
       try show LeavesInM _ _ _ _ _ _ (marks Ds) _ _
       refine leaves_marks Ds _ hnd MK.out ?_
       intro W' q1 q2 q3 q4 q5
       have k9 := cell_of_one ((q5 (s + 1 + 1) (fun h => by have := hDs _ h; omega)).trans HX3.out)
       have bW : Below w.heap.size w W' := ⟨q1.trans BF.out.os, q2.trans BF.out.tape, q3.trans BF.out.output, by rw [q4]; exact BF.out.size, fun k hk => (q5 k (fun h => by have := hDs _ h; omega)).trans (BF.out.block k hk)⟩
       exact ⟨.bool true, by simp [results, Tryd.results3, go_sem, k9], rfl, bW⟩
end Go.Proofs.YtkjchoamdibolaaDoor
namespace Go.Proofs.YtkjchoamdibolaaDoor
open Go.ChangeShapes Go.WideShapes Go.ChangeAt Go.RowKit Go.Deep
section
variable {H : Type} {enc : TypeId × Value → H} {P : Program} {w : World} {base : Nat} {held : Bool}
theorem spot_none {a : Addr} {v : Value} (h : w.cell? (a.add 0) = some v) : ∃ b off, a = ⟨b, off, none⟩ := by
 obtain ⟨b, off, spot⟩ := a
 have hs : spot = none := by simpa [Addr.add] using World.cell?_spot h
 subst hs
 exact ⟨b, off, rfl⟩
theorem open_strings_cells {t e : TypeId} {fuel : Nat} {a0 : Option Addr} {len cap : Nat} {x : DataW H × List MemPlace} (ht : P.underlying t = some (.slice e)) (he : P.underlying e = some .string)
 (ce : P.cellsOf e = 1) (h : DataW.trod enc P w base (fun _ => true) held fuel t (Value.slice a0 len cap).cells.toList = some x) :
 ∃ l : List ByteArray, len = l.length ∧ CellsAt w a0 (l.map Value.string) ∧ l.length ≤ maxLen ∧ len ≤ cap ∧ ∀ s ∈ l, s.size ≤ maxLen := by
 rcases open_strings ht he ce h with ⟨hcs, _⟩ | ⟨a, l, c, zs, hcs, _, hl, hm, hz, hx, hcell, hwz⟩
 · simp [Value.cells] at hcs
   obtain ⟨rfl, rfl, rfl⟩ := hcs
   exact ⟨[], rfl, CellsAt.nil _ _, Nat.zero_le _, Nat.le_refl _, fun n hn => by simp at hn⟩
 · have hz' : zs.length = c := by simpa using hz
   simp [Value.cells] at hcs
   obtain ⟨rfl, rfl, rfl⟩ := hcs
   refine ⟨zs.take len, by simp; omega, fun i hi => ?_, by simp; omega, hl, fun n hn => hwz n (List.mem_of_mem_take hn)⟩
   have hi' : i < len ∧ i < zs.length := by simp at hi; omega
   obtain ⟨b, off, rfl⟩ := spot_none (hcell 0 (by omega))
   refine ⟨b, off, rfl, ?_⟩
   have h0 := hcell i (by omega)
   rw [Addr_add] at h0
   rw [h0]
   simp [hi'.2]
end
end Go.Proofs.YtkjchoamdibolaaDoor
namespace Go.Proofs.YtkjchoamdibolaaDoor
open Go.ChangeShapes Go.WideShapes Go.ChangeAt Go.RowKit Go.Deep St Ku
section
variable {H : Type} {enc : TypeId × Value → H} {w : World} {base : Nat} {held : Bool}
theorem maxLen_small {n : Nat} (h : n ≤ maxLen) : n ≤ 9223372036854775807 := by unfold maxLen at h; omega
end
theorem laid_eq1 : (Rows.laid_unicode_utf8_acceptRanges : DataW Unit) = Lib.acceptData := by kernel_rfl
theorem laid_eq2 : Rows.laid_unicode_utf8_first = Lib.firstData := by kernel_rfl
theorem glob_of {W : World} (hL : laidMetH Tryd.prog [("unicode/utf8.acceptRanges", Rows.laid_unicode_utf8_acceptRanges), ("unicode/utf8.first", Rows.laid_unicode_utf8_first)] W) (hS : W.ShapedOpen Tryd.prog) : Glob W := by
 refine ⟨utf8Tabs_of_readsT (U8Types.of196 lay196) ⟨by kernel_rfl, by kernel_rfl, by kernel_rfl, by kernel_rfl, by kernel_rfl, by kernel_rfl, by kernel_rfl⟩ ?_ ?_, ?_⟩
 · rw [← laid_eq2]; exact Lib.laidMet.reads hL (.tail _ (.head _))
 · rw [← laid_eq1]; exact Lib.laidMet.reads hL (.head _)
 · exact cell_of_shapedOpen_int (P := Tryd.prog) (g := 2) (t := 3) (zero := #[.int .i64 0]) hS (of_decide_eq_true (by kernel_rfl)) (by kernel_rfl) rfl (by kernel_rfl) (by kernel_rfl) Tryd.underlying3
noncomputable def laidWorld (os : Os) : World :=
 let w0 := World.holding Tryd.prog os ⟨#[], #[], []⟩
 let put (h : Array Obj) (g : Nat) (cs : Array Value) : Array Obj := h.modify g fun
  | .cells _ t frozen => .cells cs t frozen
  | o => o
 let h1 := put w0.heap 0 (Lib.firstTab.map fun z => Value.int .u8 z).toArray
 let h2 := put h1 1 ((List.range 16).flatMap fun i => [Value.int .u8 (Lib.accLo i), Value.int .u8 (Lib.accHi i)]).toArray
 { w0 with heap := h2 }
theorem laid_met (os : Os) (args : Array Value) : laidMet Tryd.prog [("unicode/utf8.acceptRanges", Rows.laid_unicode_utf8_acceptRanges), ("unicode/utf8.first", Rows.laid_unicode_utf8_first)] ((laidWorld os).forCall (fun _ _ => 0) ⟨#[], args, []⟩).memory :=
 (LaidIn.of_run (l := [("unicode/utf8.acceptRanges", Rows.laid_unicode_utf8_acceptRanges), ("unicode/utf8.first", Rows.laid_unicode_utf8_first)]) [1, 0] 8 (by kernel_rfl) (by kernel_rfl) (by kernel_rfl) (by kernel_rfl)).met
end Go.Proofs.YtkjchoamdibolaaDoor
