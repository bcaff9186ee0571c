/- Words, contracts and walks that the proof stands on (KnS KnU KnN KnV RelO RelP). -/
import Derived.Lib.SlicesCompact
import Derived.Shelf.Slices.CompactS
import Derived.Shelf.Slices.In.SortNone
import Derived.Shelf.Sort.Plain
import Derived.Test.YtjlliohjeiclaaaDoorKA1
import Derived.Test.YtjlliohjeiclaaaDoorKA2
import Derived.Test.YtjlliohjeiclaaaDoorKA6
import Derived.Test.YtjlliohjeiclaaaDoorKA7
namespace Go.Proofs.YtjlliohjeiclaaaDoor
namespace Kn
open St Pm
def insU (t : ByteArray) : List ByteArray → List ByteArray
 | [] => [t]
 | x :: r => if klt x t = true then x :: insU t r else if x = t then x :: r else t :: x :: r
def setT (l : List ByteArray) : List ByteArray := l.foldl (fun acc t => insU t acc) []
def SrtT (l : List ByteArray) : Prop := l.Pairwise fun a b => klt a b = true
theorem mem_insU (t : ByteArray) : ∀ (l : List ByteArray) (x : ByteArray), x ∈ insU t l ↔ x = t ∨ x ∈ l
 | [], x => by simp [insU]
 | y :: r, x => by
  unfold insU
  split
  · rw [List.mem_cons, mem_insU t r x, List.mem_cons]
    constructor
    · rintro (h | h | h)
      · exact .inr (.inl h)
      · exact .inl h
      · exact .inr (.inr h)
    · rintro (h | h | h)
      · exact .inr (.inl h)
      · exact .inl h
      · exact .inr (.inr h)
  · split
    · rename_i h
      subst h
      rw [List.mem_cons]
      constructor
      · rintro (h | h)
        · exact .inl h
        · exact .inr (.inr h)
      · rintro (h | h | h)
        · exact .inl h
        · exact .inl h
        · exact .inr h
    · simp only [List.mem_cons]
theorem srt_insU (t : ByteArray) : ∀ (l : List ByteArray), SrtT l → SrtT (insU t l)
 | [], _ => by unfold insU; exact List.pairwise_singleton _ _
 | y :: r, h => by
  obtain ⟨h1, h2⟩ := List.pairwise_cons.1 h
  unfold insU
  split
  · rename_i hy
    refine List.pairwise_cons.2 ⟨fun x hx => ?_, srt_insU t r h2⟩
    rcases (mem_insU t r x).1 hx with rfl | hx
    · exact hy
    · exact h1 x hx
  · split
    · exact h
    · rename_i hn he
      have hk : klt t y = true := by
       cases hty : klt t y with
       | true => rfl
       | false => exact absurd (klt_tri (by simpa using hn) hty) he
      refine List.pairwise_cons.2 ⟨fun x hx => ?_, h⟩
      rcases List.mem_cons.1 hx with rfl | hx
      · exact hk
      · exact klt_trans hk (h1 x hx)
theorem setT_go : ∀ (l acc : List ByteArray), SrtT acc → SrtT (l.foldl (fun acc t => insU t acc) acc) ∧ ∀ x, x ∈ l.foldl (fun acc t => insU t acc) acc ↔ x ∈ acc ∨ x ∈ l
 | [], acc, h => ⟨h, fun x => by simp⟩
 | t :: l, acc, h => by
  obtain ⟨h1, h2⟩ := setT_go l (insU t acc) (srt_insU t acc h)
  refine ⟨h1, fun x => (h2 x).trans ?_⟩
  rw [mem_insU, List.mem_cons]
  constructor
  · rintro ((h | h) | h)
    · exact .inr (.inl h)
    · exact .inl h
    · exact .inr (.inr h)
  · rintro (h | h | h)
    · exact .inl (.inr h)
    · exact .inl (.inl h)
    · exact .inr h
theorem setT_srt (l : List ByteArray) : SrtT (setT l) := (setT_go l [] List.Pairwise.nil).1
theorem setT_mem (l : List ByteArray) (x : ByteArray) : x ∈ setT l ↔ x ∈ l := by
 have := (setT_go l [] List.Pairwise.nil).2 x
 unfold setT
 rw [this]
 simp
theorem srtT_ext : ∀ (l m : List ByteArray), SrtT l → SrtT m → (∀ x, x ∈ l ↔ x ∈ m) → l = m
 | [], [], _, _, _ => rfl
 | [], y :: m, _, _, h => by have := (h y).2 List.mem_cons_self; cases this
 | x :: l, [], _, _, h => by have := (h x).1 List.mem_cons_self; cases this
 | x :: l, y :: m, hl, hm, h => by
  obtain ⟨l1, l2⟩ := List.pairwise_cons.1 hl
  obtain ⟨m1, m2⟩ := List.pairwise_cons.1 hm
  have ir : ∀ z, ¬ klt z z = true := fun z hz => by rw [klt_irrefl] at hz; cases hz
  have e : x = y := by
   rcases List.mem_cons.1 ((h x).1 List.mem_cons_self) with e | hx
   · exact e
   · rcases List.mem_cons.1 ((h y).2 List.mem_cons_self) with e | hy
     · exact e.symm
     · exact absurd (klt_trans (l1 _ hy) (m1 _ hx)) (ir _)
  subst e
  congr 1
  refine srtT_ext l m l2 m2 fun z => ⟨fun hz => ?_, fun hz => ?_⟩
  · rcases List.mem_cons.1 ((h z).1 (List.mem_cons_of_mem _ hz)) with rfl | h2
    · exact absurd (l1 _ hz) (ir _)
    · exact h2
  · rcases List.mem_cons.1 ((h z).2 (List.mem_cons_of_mem _ hz)) with rfl | h2
    · exact absurd (m1 _ hz) (ir _)
    · exact h2
def lstB (l : List ByteArray) : List (List UInt8) := l.map fun t => t.data.toList
def byB (l : List (List UInt8)) : List ByteArray := l.map fun t => ⟨t.toArray⟩
theorem compact_mem {α : Type} [Inhabited α] [DecidableEq α] (l : List α) (x : α) : x ∈ Lib.compact l ↔ x ∈ l := by
 unfold Lib.compact Lib.compactUpTo
 rw [List.mem_map]
 constructor
 · rintro ⟨i, hi, rfl⟩
   have h1 := List.mem_range.1 (List.mem_filter.1 hi).1
   rw [getElem!_pos l.toArray i (by simpa using h1)]
   exact List.getElem_mem (l := l) h1
 · intro hx
   obtain ⟨i, hi, rfl⟩ := List.getElem_of_mem hx
   clear hx
   induction i with
   | zero => exact ⟨0, List.mem_filter.2 ⟨List.mem_range.2 hi, by simp [Lib.keeps]⟩, by rw [getElem!_pos l.toArray 0 (by simpa using hi)]; rfl⟩
   | succ i ih =>
    have hi0 : i < l.length := by omega
    by_cases h : l[i + 1] = l[i]
    · obtain ⟨j, h1, h2⟩ := ih hi0
      exact ⟨j, h1, h2.trans h.symm⟩
    · refine ⟨i + 1, List.mem_filter.2 ⟨List.mem_range.2 hi, ?_⟩, by rw [getElem!_pos l.toArray (i + 1) (by simpa using hi)]; rfl⟩
      unfold Lib.keeps
      rw [decide_eq_true_eq]
      refine .inr ?_
      rw [getElem!_pos l.toArray (i + 1) (by simpa using hi), Nat.add_sub_cancel, getElem!_pos l.toArray i (by simpa using hi0)]
      exact h
theorem compact_srt (l : List (List UInt8)) (hl : l.Pairwise fun x y => x ≤ y) : (Lib.compact l).Pairwise fun x y => x < y := by
 unfold Lib.compact Lib.compactUpTo
 rw [List.pairwise_map]
 have hr : (List.range l.length).Pairwise (fun i j => i < j) := List.pairwise_lt_range
 refine List.Pairwise.imp_of_mem ?_ (hr.filter _)
 intro i j hi hj hij
 have h1 := List.mem_range.1 (List.mem_filter.1 hj).1
 have h2 := (List.mem_filter.1 hj).2
 unfold Lib.keeps at h2
 rw [decide_eq_true_eq] at h2
 have hj1 : j - 1 < l.length := by omega
 rw [getElem!_pos l.toArray j (by simpa using h1), getElem!_pos l.toArray (j - 1) (by simpa using hj1)] at h2
 rw [getElem!_pos l.toArray j (by simpa using h1), getElem!_pos l.toArray i (by simp; omega)]
 simp only [List.getElem_toArray] at h2 ⊢
 have h3 : l[j] ≠ l[j - 1] := h2.resolve_left (by omega)
 have hp := List.pairwise_iff_getElem.1 hl
 have h4 : l[j - 1] ≤ l[j] := hp (j - 1) j hj1 h1 (by omega)
 have h5 : l[j - 1] < l[j] := by
  refine Classical.byContradiction fun hn => h3 (List.le_antisymm (List.not_lt.1 hn) h4)
 by_cases hc : i = j - 1
 · simp only [hc]; exact h5
 · have h6 : l[i]'(by omega) ≤ l[j - 1] := hp i (j - 1) (by omega) hj1 (by omega)
   exact List.lt_of_le_of_lt h6 h5
end Kn
open Kn St Pm
theorem show_set (l : List ByteArray) : byB (Lib.compact ((lstB l).mergeSort fun x y => decide (x ≤ y))) = setT l := by
 refine srtT_ext _ _ ?_ (setT_srt l) fun x => ?_
 · unfold SrtT byB
   rw [List.pairwise_map]
   refine (compact_srt _ ?_).imp fun {a b} h => (klt_iff _ _).2 (by simpa using h)
   have h := List.pairwise_mergeSort (le := fun x y : List UInt8 => decide (x ≤ y)) (fun a b c h1 h2 => by simp only [decide_eq_true_eq] at *; exact List.le_trans h1 h2) (fun a b => by simp only [Bool.or_eq_true, decide_eq_true_eq]; exact List.le_total a b) (lstB l)
   exact h.imp fun {a b} hab => by simpa using hab
 · rw [setT_mem]
   unfold byB
   rw [List.mem_map]
   constructor
   · rintro ⟨y, hy, rfl⟩
     rw [compact_mem, List.mem_mergeSort] at hy
     obtain ⟨t, ht, rfl⟩ := List.mem_map.1 hy
     simpa using ht
   · intro hx
     exact ⟨x.data.toList, by rw [compact_mem, List.mem_mergeSort]; exact List.mem_map.2 ⟨x, hx, rfl⟩, by simp⟩
end Go.Proofs.YtjlliohjeiclaaaDoor
namespace Go.Proofs.YtjlliohjeiclaaaDoor
open Go.RowKit Go.Shelf Go.Sort St Pm Kn
def lay190_ren : Go.Shelf.Ren := ⟨fun | 125 => 93 | 128 => 119 | 129 => 120 | 190 => 87 | 258 => 109 | 302 => 138 | 303 => 139 | 304 => 140 | 305 => 141 | 306 => 142 | 307 => 143 | 308 => 144 | 309 => 145 | 310 => 146 | 329 => 148 | 330 => 149 | 333 => 162 | 334 => 163 | 335 => 164 | 336 => 165 | 344 => 174 | n => n, fun | 0 => 0 | 3 => 3 | 4 => 4 | 5 => 5 | 9 => 9 | 31 => 45 | 46 => 147 | 51 => 181 | 53 => 183 | 131 => 178 | 182 => 173 | 183 => 174 | 218 => 210 | 222 => 214 | 228 => 222 | 229 => 223 | n => n, fun n => n⟩
theorem lay190 : Go.Proofs.Lays.n190 Tryd.prog lay190_ren := {
 mixed := by kernel_rfl
 f125 := Tryd.func93.trans (congrArg some (by kernel_rfl))
 f128 := Tryd.func119.trans (congrArg some (by kernel_rfl))
 f129 := Tryd.func120.trans (congrArg some (by kernel_rfl))
 f190 := Tryd.func87.trans (congrArg some (by kernel_rfl))
 f258 := Tryd.func109.trans (congrArg some (by kernel_rfl))
 f302 := Tryd.func138.trans (congrArg some (by kernel_rfl))
 f303 := Tryd.func139.trans (congrArg some (by kernel_rfl))
 f304 := Tryd.func140.trans (congrArg some (by kernel_rfl))
 f305 := Tryd.func141.trans (congrArg some (by kernel_rfl))
 f306 := Tryd.func142.trans (congrArg some (by kernel_rfl))
 f307 := Tryd.func143.trans (congrArg some (by kernel_rfl))
 f308 := Tryd.func144.trans (congrArg some (by kernel_rfl))
 f309 := Tryd.func145.trans (congrArg some (by kernel_rfl))
 f310 := Tryd.func146.trans (congrArg some (by kernel_rfl))
 f329 := Tryd.func148.trans (congrArg some (by kernel_rfl))
 f330 := Tryd.func149.trans (congrArg some (by kernel_rfl))
 f333 := Tryd.func162.trans (congrArg some (by kernel_rfl))
 f334 := Tryd.func163.trans (congrArg some (by kernel_rfl))
 f335 := Tryd.func164.trans (congrArg some (by kernel_rfl))
 f336 := Tryd.func165.trans (congrArg some (by kernel_rfl))
 f344 := Tryd.func174.trans (congrArg some (by kernel_rfl))
 t0 := Tryd.underlying0
 a0 := Tryd.isAgg0
 z0 := Tryd.sizeOf0
 v0 := Tryd.zeroValue0
 t3 := Tryd.underlying3
 a3 := Tryd.isAgg3
 z3 := Tryd.sizeOf3
 v3 := Tryd.zeroValue3
 t4 := Tryd.underlying4
 a4 := Tryd.isAgg4
 z4 := Tryd.sizeOf4
 v4 := Tryd.zeroValue4
 t5 := Tryd.underlying5
 a5 := Tryd.isAgg5
 z5 := Tryd.sizeOf5
 v5 := Tryd.zeroValue5
 t9 := Tryd.underlying9
 a9 := Tryd.isAgg9
 z9 := Tryd.sizeOf9
 v9 := Tryd.zeroValue9
 t31 := Tryd.underlying45
 a31 := Tryd.isAgg45
 z31 := Tryd.sizeOf45
 v31 := Tryd.zeroValue45
 t46 := Tryd.underlying147
 a46 := Tryd.isAgg147
 z46 := Tryd.sizeOf147
 v46 := Tryd.zeroValue147
 t51 := Tryd.underlying181
 a51 := Tryd.isAgg181
 z51 := Tryd.sizeOf181
 v51 := Tryd.zeroValue181
 t53 := Tryd.underlying183
 a53 := Tryd.isAgg183
 z53 := Tryd.sizeOf183
 v53 := Tryd.zeroValue183
 t131 := Tryd.underlying178
 a131 := Tryd.isAgg178
 z131 := Tryd.sizeOf178
 v131 := Tryd.zeroValue178
 t182 := Tryd.underlying173
 a182 := Tryd.isAgg173
 z182 := Tryd.sizeOf173
 v182 := Tryd.zeroValue173
 t183 := Tryd.underlying174
 a183 := Tryd.isAgg174
 z183 := Tryd.sizeOf174
 v183 := Tryd.zeroValue174
 t218 := Tryd.underlying210
 a218 := Tryd.isAgg210
 z218 := Tryd.sizeOf210
 v218 := Tryd.zeroValue210
 t222 := Tryd.underlying214
 a222 := Tryd.isAgg214
 z222 := Tryd.sizeOf214
 v222 := Tryd.zeroValue214
 t228 := Tryd.underlying222
 a228 := Tryd.isAgg222
 z228 := Tryd.sizeOf222
 v228 := Tryd.zeroValue222
 t229 := Tryd.underlying223
 a229 := Tryd.isAgg223
 z229 := Tryd.sizeOf223
 v229 := Tryd.zeroValue223
}
def lay194_ren : Go.Shelf.Ren := ⟨fun | 194 => 88 | n => n, fun | 0 => 0 | 3 => 3 | 4 => 4 | 9 => 9 | 31 => 45 | n => n, fun n => n⟩
theorem lay194 : Go.Proofs.Lays.n194 Tryd.prog lay194_ren := {
 mixed := by kernel_rfl
 f194 := Tryd.func88.trans (congrArg some (by kernel_rfl))
 t0 := Tryd.underlying0
 a0 := Tryd.isAgg0
 z0 := Tryd.sizeOf0
 v0 := Tryd.zeroValue0
 t3 := Tryd.underlying3
 a3 := Tryd.isAgg3
 z3 := Tryd.sizeOf3
 v3 := Tryd.zeroValue3
 t4 := Tryd.underlying4
 a4 := Tryd.isAgg4
 z4 := Tryd.sizeOf4
 v4 := Tryd.zeroValue4
 t9 := Tryd.underlying9
 a9 := Tryd.isAgg9
 z9 := Tryd.sizeOf9
 v9 := Tryd.zeroValue9
 t31 := Tryd.underlying45
 a31 := Tryd.isAgg45
 z31 := Tryd.sizeOf45
 v31 := Tryd.zeroValue45
}
theorem lstB_toArray (l : List ByteArray) (j : Nat) (h : j < l.length) : encStr ((lstB l).toArray[j]!) = .string l[j] := by
 have hl : j < (lstB l).length := by simpa [lstB] using h
 rw [getElem!_pos _ j (by simpa using hl)]
 simp [lstB]
theorem holds_ownT {w : World} {base n g c : Nat} {e : TypeId} {l : List ByteArray} (h : w.ownsRow base e 1 (.slice (some ⟨g, 0, none⟩) n c) n (txV l)) : Holds encStr w g 0 (lstB l).toArray := by
 intro j hj
 have hj2 : j < l.length := by simpa [lstB] using hj
 have hl : j < (txV l).length := by simpa [txV] using hj2
 obtain ⟨h1, h2⟩ := own_cellM h j hl
 rw [Nat.zero_add]
 refine ⟨?_, h2⟩
 rw [h1, lstB_toArray l j hj2]
 simp [txV]
theorem cells_holdsT {w : World} {g : Nat} {zs more : List (List UInt8)} (h : Holds encStr w g 0 (zs ++ more).toArray) : CellsAt w (some ⟨g, 0, none⟩) (txV (byB zs)) := by
 intro j hj
 have hj2 : j < zs.length := by simpa [txV, byB] using hj
 have h1 := (h j (by simp; omega)).1
 refine ⟨g, 0, rfl, ?_⟩
 rw [h1, getElem!_pos _ j (by simp; omega)]
 simp [txV, byB, List.getElem_append_left hj2]
theorem putRow_grown (w : World) (g n : Nat) (d : Array (List UInt8)) (os : Array Obj) : w.grownBy (grow (putRow encStr (Sort.ahead w n) g 0 d) os) (some g) := by
 refine ⟨rfl, rfl, rfl, ?_, fun k hk hne => ?_⟩
 · simp [Sort.grow, putRow, mapBlock]
 · have hne' : g ≠ k := fun e => hne (by rw [e])
   show (((Sort.ahead w n).heap.modify g _) ++ os)[k]? = _
   rw [Array.getElem?_append_left (by simpa using hk), Array.getElem?_modify, if_neg hne']
   rfl
theorem sl_SortTx (l : List ByteArray) (g n c base : Nat) (e0 : TypeId) (w : World) (hn : n = l.length) (hb : n ≤ 1000000) (hown : w.ownsRow base e0 1 (.slice (some ⟨g, 0, none⟩) n c) n (txV l)) :
 Calls Tryd.prog 87 #[.slice (some ⟨g, 0, none⟩) n c] w fun e w' => e = .returned (.tuple #[]) ∧
  Holds encStr w' g 0 ((lstB l).mergeSort fun x y => decide (x ≤ y)).toArray ∧ w.grownBy w' (some g) := by
 have hlen : (lstB l).length = n := by rw [hn]; simp [lstB]
 have hH := holds_ownT hown
 have hblk : g < w.heap.size := (hown.lt _ rfl).2
 have h := Any.slices_Sort_string lay190 g 0 c (lstB l) w hH hblk (by omega)
 rw [hlen] at h
 refine h.mono ?_
 rintro e w' ⟨rfl, m, os, rfl⟩
 refine ⟨rfl, ?_, putRow_grown w g m _ os⟩
 exact holds_grow encStr _ os g 0 _ (by simpa using hblk) (holds_putRow encStr _ g 0 _ _ (holds_ahead encStr w m g 0 _ hH) (by simp))
theorem sl_CompactTx (zs : List (List UInt8)) (g n c : Nat) (w : World) (hn : zs.length = n) (hb : n ≤ 1000000) (hc : n ≤ c) (hH : Holds encStr w g 0 zs.toArray) :
 Calls Tryd.prog 88 #[.slice (some ⟨g, 0, none⟩) n c] w fun e w' => e = .returned (.slice (some ⟨g, 0, none⟩) (byB (Lib.compact zs)).length c) ∧
  CellsAt w' (some ⟨g, 0, none⟩) (txV (byB (Lib.compact zs))) ∧ w.grownBy w' (some g) := by
 subst hn
 have hle : (Lib.compact zs).length ≤ zs.length := by
  unfold Lib.compact Lib.compactUpTo
  rw [List.length_map]
  exact Nat.le_trans (List.length_filter_le _ _) (by simp)
 refine (Any.slices_Compact_string lay194 g 0 c zs w hH (by omega) hc).mono ?_
 rintro e w' ⟨rfl, q, rfl⟩
 refine ⟨by simp [byB], cells_holdsT (holds_putRow encStr _ g 0 _ _ (holds_ahead encStr w q g 0 _ hH) (by simp; omega)), ?_⟩
 have h := putRow_grown w g q (Lib.compact zs ++ List.replicate (zs.length - (Lib.compact zs).length) []).toArray #[]
 rwa [grow_empty] at h
end Go.Proofs.YtjlliohjeiclaaaDoor
namespace Go.Proofs.YtjlliohjeiclaaaDoor
open Go.RowKit St Pm Ku Kn
namespace Kn
def showG (k : Int) (l : List Ev) : List ByteArray := if k = 2 then setT (l.map (·.2)) else l.map (·.2)
def ShowOut (w w' : World) (k m : Int) (l : List Ev) (e : Ending) : Prop :=
 ((valG k m l = false ∧ e = .returned (.tuple #[.int .i64 0, .slice none 0 0, .int .i64 2])) ∨
  (valG k m l = true ∧ ∃ (a : Option Addr) (n c : Nat), e = .returned (.tuple #[.int .i64 m, .slice a n c, .int .i64 0]) ∧ n = (showG k l).length ∧ CellsAt w' a (txV (showG k l)) ∧ ∀ ad, a = some ad → w.heap.size ≤ ad.block)) ∧ Below w.heap.size w w'
end Kn
open Kn
theorem sl_SortTxNil (a : Option Addr) (c : Nat) (w : World) : Calls Tryd.prog 87 #[.slice a 0 c] w fun e w' => e = .returned (.tuple #[]) ∧ w' = w := Any.slices_Sort_string_none lay190 a c w
theorem sl_CompactTxNil (a : Option Addr) (c : Nat) (w : World) : Calls Tryd.prog 88 #[.slice a 0 c] w fun e w' => e = .returned (.slice a 0 c) ∧ w' = w := Any.slices_Compact_string_empty lay194 a c w
theorem own_from {w w0 : World} {base size n : Nat} {e : TypeId} {a : Option Addr} {k c : Nat} {xs : List Value} (h : w.ownsRow base e size (.slice a k c) n xs) (hb : w0.heap.size ≤ base) : ∀ ad, a = some ad → w0.heap.size ≤ ad.block := fun ad had => by
 subst had
 rcases h.2 with ⟨h0, _⟩ | ⟨g, cap, cur, h0, h1, _⟩
 · cases h0
 · cases h0; exact Nat.le_trans hb h1
theorem sxN : ElemT Tryd.prog 45 9 (.string ⟨#[]⟩) 1 16 := ElemT.mk Tryd.underlying45 (by kernel_rfl) (by simp [Value.cells])
set_option maxRecDepth 100000 in
set_option maxHeartbeats 8000000 in
theorem kn_Show (k m : Int) (l : List Ev) (a : Option Addr) (n c : Nat) (w : World) (hl : CellsAt w a (elsV l)) (hn : n = l.length) (hb : n ≤ 100000) (hz : ∀ e ∈ l, e.1.l.size ≤ 9223372036854775807) :
 Calls Tryd.prog 56 #[.agg #[.int .i64 k, .int .i64 m, .slice a n c]] w fun e w' => ShowOut w w' k m l e := by
 have HL := Lib.hid hl
 have HN := Lib.hid hn
 have HZ := Lib.hid hz
 have ST := Lib.hid sxN
 clear hl hn hz
 have HC : Hid (Chain [w] w) := Lib.hid (Chain.one w)
 go_enter Tryd.func56, Tryd.ntmps56
 go_upto_region 1 with (fail)
 obtain ⟨z, hz⟩ : ∃ c, w.heap.size = c := ⟨_, rfl⟩
 try rw [hz]
 obtain ⟨w1, hw1⟩ : ∃ X, allocs w [.cells #[.int .i64 k, .int .i64 m, .slice a n c] 49] = X := ⟨_, rfl⟩
 rw [show w.alloc (.cells #[.int .i64 k, .int .i64 m, .slice a n c] 49) = w1 from hw1]
 have hb : Below w.heap.size w w1 := by rw [← hw1]; exact allocs_below _ _
 have HV : Hid (w1.heap[z]? = some (.cells #[.int .i64 k, .int .i64 m, .slice a n c] 49 (0, 0))) := Lib.hid (by have := allocs_get [.cells #[.int .i64 k, .int .i64 m, .slice a n c] 49] w 0 _ rfl; rw [hw1, hz] at this; exact this)
 have Sz : Hid (w.heap.size = z) := Lib.hid hz
 replace HC := Lib.hid (HC.out.push hb)
 clear hb hw1 hz
 have kV0 := cell_of_row _ _ 0 _ _ _ HV.out
 have kV1 := cell_of_row _ _ 1 _ _ _ HV.out
 have kV2 := cell_of_row _ _ 2 _ _ _ HV.out
 go_wp2_with fail
 refine (kn_Value k m l a n c _ (HL.out.below (HC.out.to w (by simp)) rfl) HN.out (by omega) HZ.out).mono ?_
 rintro e w2 ⟨rfl, hb⟩
 clear kV0 kV1 kV2
 replace HC := Lib.hid (HC.out.push hb)
 clear hb
 obtain ⟨v1, h1⟩ : ∃ b, valG k m l = b := ⟨_, rfl⟩
 rw [h1]
 have H1 := Lib.hid h1
 clear h1
 cases v1
 case false =>
  have kV0 := cell_of_row _ _ 0 _ _ _ (boxStays HV.out (HC.out.to w1 (by simp)))
  have kV1 := cell_of_row _ _ 1 _ _ _ (boxStays HV.out (HC.out.to w1 (by simp)))
  have kV2 := cell_of_row _ _ 2 _ _ _ (boxStays HV.out (HC.out.to w1 (by simp)))
  go_wp2_with fail
  refine bodyPost_ret (v := .tuple #[.int .i64 0, .slice none 0 0, .int .i64 2]) (by simp [results, Tryd.results56, go_sem]) rfl ?_
  exact ⟨.inl ⟨H1.out, rfl⟩, (HC.out.to w (by simp))⟩
 have HV2 := Lib.hid (boxStays HV.out (HC.out.to w1 (by simp)))
 have BW2 := Lib.hid (HC.out.to w (by simp))
 have WZ : Hid (w.heap.size ≤ z ∧ z < w2.heap.size) := Lib.hid ⟨Nat.le_of_eq Sz.out, (Array.getElem?_eq_some_iff.1 HV2.out).1⟩
 have kV0 := cell_of_row _ _ 0 _ _ _ (boxStays HV.out (HC.out.to w1 (by simp)))
 have kV1 := cell_of_row _ _ 1 _ _ _ (boxStays HV.out (HC.out.to w1 (by simp)))
 have kV2 := cell_of_row _ _ 2 _ _ _ (boxStays HV.out (HC.out.to w1 (by simp)))
 go_wp2_with fail
 clear kV0 kV1 kV2
 clear HC HV Sz
 go_loopw [5, 7, 14] (fun v _ j wr => ∃ (q : Nat) (av : Option Addr) (ac : Nat), v = .slice av q ac ∧ j = .int .i64 (q : Int) ∧ q ≤ n ∧ Hid (wr.ownsRow w2.heap.size 9 1 (.slice av q ac) q (txV ((l.take q).map (·.2)))) ∧ Hid (Below w2.heap.size w2 wr)) (fun _ _ j _ => n - (intOf j).toNat)
 case atStart => exact ⟨0, none, 0, rfl, rfl, Nat.zero_le _, Lib.hid ⟨rfl, Or.inl ⟨rfl, rfl⟩⟩, Lib.hid (Below.refl _ _)⟩
 case round =>
  obtain ⟨q, av, ac, rfl, rfl, hq, OW, HB⟩ := hrel
  have BWr : Hid (Below w.heap.size w wr) := Lib.hid (BW2.out.trans (HB.out.mono BW2.out.size))
  by_cases hlt : q < n
  · have hqi : (q : Int) < (n : Int) := by omega
    have hql : q < l.length := by have := HN.out; omega
    obtain ⟨ba', oa', rfl, cx⟩ := els_get (HL.out.below BWr.out rfl) q hql
    have SN : Hid ((l.take (q + 1)).map (·.2) = (l.take q).map (·.2) ++ [(l[q]).2]) := Lib.hid (by rw [← List.take_append_getElem hql, List.map_append]; rfl)
    obtain ⟨x, hx⟩ : ∃ x, l[q] = x := ⟨_, rfl⟩
    rw [hx] at cx SN
    obtain ⟨p0, p1, p2, p3, p4, p5⟩ := cx
    clear hx
    go_upto_region 7 with (fail)
    clear p0 p1 p2 p3 p4 p5
    obtain ⟨w3, hw3⟩ : ∃ W, wr.alloc (.cells #[.int .i64 x.1.g, .int .i64 x.1.r, .string x.1.l, .int .i64 x.1.n, .int .i64 x.1.i, .string x.2] 33) = W := ⟨_, rfl⟩
    have B3 : Hid (Below wr.heap.size wr w3) := Lib.hid (by rw [← hw3]; exact below_new _ _)
    have hx3 : w3.heap[wr.heap.size]? = some (.cells #[.int .i64 x.1.g, .int .i64 x.1.r, .string x.1.l, .int .i64 x.1.n, .int .i64 x.1.i, .string x.2] 33 (0, 0)) := by rw [← hw3]; exact heap_alloc_new _ _
    rw [hw3]
    obtain ⟨u, hu⟩ : ∃ u, wr.heap.size = u := ⟨_, rfl⟩
    rw [hu] at hx3
    try rw [hu]
    have OW3 := Lib.hid (own_later OW.out B3.out (Nat.le_refl _))
    have BB3 := Lib.hid (HB.out.trans (B3.out.mono HB.out.size))
    have q5 := cell_of_row _ u 5 _ _ _ hx3
    clear hw3 hx3 hu
    go_wp2_with (at_builtin; go_must (refine wpList_app rfl _ _ 45 45 rfl w2.heap.size 9 _ 1 16 ST.out (.slice av q ac) q (txV ((l.take q).map (·.2))) rfl (OW3.out.alloc _) _ 1 [.string x.2] rfl ((CellsAt.new w3 9 (0, 0) [.string x.2]).srcN rfl (fun u hu => by simp at hu; subst hu; rfl) Tryd.underlying45 1 (by decide)) (by omega) (by omega) (by have := BB3.out.size; simp; omega) ?_); go_must (intro v10 w10 hown hgr10 hbel hor); go_must (obtain ⟨a10, c10, rfl, _⟩ := own_slice hown); have OW10 := Lib.hid hown; have B10 : Hid (Below w2.heap.size w2 w10) := Lib.hid (BB3.out.trans (((below_new w3 (.cells #[.string x.2] 9)).mono BB3.out.size).trans hbel)); clear hown hgr10 hbel hor q5)
    go_roundw
    case rel => exact ⟨q + 1, a10, c10, rfl, by go_num, by omega, Lib.hid (by rw [SN.out, show txV ((l.take q).map (·.2) ++ [x.2]) = txV ((l.take q).map (·.2)) ++ [.string x.2] by simp [txV]]; exact OW10.out), B10⟩
    case measure => simp [intOf]; omega
  · obtain rfl : q = n := by omega
    have hqi : ¬ (q : Int) < (q : Int) := by omega
    have OWF : Hid (wr.ownsRow w2.heap.size 9 1 (.slice av q ac) q (txV (l.map (·.2)))) := Lib.hid (by have h := OW.out; rwa [List.take_of_length_le (by rw [HN.out]; exact Nat.le_refl _)] at h)
    have HVR := Lib.hid (boxStays HV2.out HB.out)
    have v0 := cell_of_row _ z 0 _ _ _ HVR.out
    have v1 := cell_of_row _ z 1 _ _ _ HVR.out
    by_cases hk : k = 2
    · subst hk
      have SH : Hid (showG 2 l = setT (l.map (·.2))) := Lib.hid (by unfold showG; rw [if_pos rfl])
      go_wp2_with fail
      clear v0 v1
      by_cases h0 : q = 0
      · subst h0
        obtain rfl : l = [] := List.length_eq_zero_iff.1 HN.out.symm
        refine (sl_SortTxNil av ac _).mono ?_
        rintro e w5 ⟨rfl, rfl⟩
        go_wp2_with fail
        refine (sl_CompactTxNil av ac _).mono ?_
        rintro e w6 ⟨rfl, rfl⟩
        have v1 := cell_of_row _ z 1 _ _ _ HVR.out
        go_wp2_with fail
        refine bodyPost_ret (v := .tuple #[.int .i64 m, .slice av 0 ac, .int .i64 0]) (by simp [results, Tryd.results56, go_sem]) rfl ?_
        exact ⟨.inr ⟨H1.out, av, 0, ac, rfl, by rw [SH.out]; rfl, by rw [SH.out]; exact CellsAt.nil _ _, own_from OWF.out BW2.out.size⟩, BWr.out⟩
      · obtain ⟨g, c', hv, hg1, hg2, hnk, _⟩ := own_form OWF.out (by omega)
        cases hv
        have NK : Hid (q ≤ ac ∧ w2.heap.size ≤ g) := Lib.hid ⟨hnk, hg1⟩
        refine (sl_SortTx (l.map (·.2)) g q ac _ _ wr (by rw [List.length_map]; exact HN.out) (by omega) OWF.out).mono ?_
        rintro e w5 ⟨rfl, hH5, hgr5⟩
        have HH5 := Lib.hid hH5
        have GR5 := Lib.hid hgr5
        clear hH5 hgr5 hg1 hg2 hnk
        go_wp2_with fail
        refine (sl_CompactTx _ g q ac w5 (by rw [List.length_mergeSort]; simp [lstB, HN.out]) (by omega) NK.out.1 HH5.out).mono ?_
        rintro e w6 ⟨rfl, hc6, hgr6⟩
        rw [show_set] at hc6 ⊢
        have C6 := Lib.hid hc6
        have GR6 := Lib.hid (grown_tr GR5.out hgr6)
        have NZ : Hid (g ≠ z) := Lib.hid (by have := NK.out; have := WZ.out; omega)
        have HV6 := Lib.hid (grow_keep GR6.out HVR.out (fun e => NZ.out (Option.some.inj e)))
        have B6 : Hid (Below w.heap.size w w6) := Lib.hid (BWr.out.grown GR6.out BWr.out.size (fun k' hk' => by cases hk'; have := NK.out; have := WZ.out; omega))
        clear hc6 hgr6
        have v1 := cell_of_row _ z 1 _ _ _ HV6.out
        go_wp2_with fail
        refine bodyPost_ret (v := .tuple #[.int .i64 m, .slice (some ⟨g, 0, none⟩) (setT (l.map (·.2))).length ac, .int .i64 0]) (by simp [results, Tryd.results56, go_sem]) rfl ?_
        exact ⟨.inr ⟨H1.out, some ⟨g, 0, none⟩, _, ac, rfl, by rw [SH.out], by rw [SH.out]; exact C6.out, own_from OWF.out BW2.out.size⟩, B6.out⟩
    · have hkb : (k == 2) = false := by simp [hk]
      have SH : Hid (showG k l = l.map (·.2)) := Lib.hid (by unfold showG; rw [if_neg hk])
      go_wp2_with fail
      refine bodyPost_ret (v := .tuple #[.int .i64 m, .slice av q ac, .int .i64 0]) (by simp [results, Tryd.results56, go_sem]) rfl ?_
      exact ⟨.inr ⟨H1.out, av, q, ac, rfl, by rw [SH.out, List.length_map]; exact HN.out, by rw [SH.out]; exact CellsAt.ownN OWF.out, own_from OWF.out BW2.out.size⟩, BWr.out⟩
end Go.Proofs.YtjlliohjeiclaaaDoor
namespace Go.Proofs.YtjlliohjeiclaaaDoor
open St Pm Ku
namespace Kn
def tX : ByteArray := ⟨#[120]⟩
def tY : ByteArray := ⟨#[121]⟩
def tK : ByteArray := ⟨#[107]⟩
def sA (k : Int) : Sv := ⟨k, 0, ⟨#[97]⟩, 1, 0⟩
theorem fc1 : checkK [] 2 tK 2 0 tX = 0 := by decide
theorem fc2 : checkK [] 2 tK 2 0 tY = 0 := by decide
theorem fc3 : checkK [] 2 tK 3 0 tX = 0 := by decide
theorem fc4 : checkK [] 2 tK 2 0 ⟨#[]⟩ = 0 := by decide
theorem fc5 : checkK [] 4 tK 6 0 tX = 2 := by decide
theorem fc6 : checkK [] 2 tK 1 0 ⟨#[]⟩ = 7 := by decide
theorem fa1 : applyG 2 0 [] (sA 1) 0 2 2 0 tX = (2, 0, [(sA 1, tX)], 0) := by decide
theorem fv1 : valG 2 0 [(sA 1, tX)] = true := by decide
theorem fv2 : valG 2 0 [(sA 1, tX), (sA 2, tY)] = true := by decide
theorem fv3 : valG 2 0 [(sA 2, tY)] = true := by decide
theorem fa2 : applyG 2 0 [(sA 1, tX)] (sA 2) 0 2 2 0 tY = (2, 0, [(sA 1, tX), (sA 2, tY)], 0) := by decide
theorem fa3 : applyG 2 0 [(sA 1, tX), (sA 2, tY)] (sA 3) 0 2 3 0 tX = (2, 0, [(sA 2, tY)], 0) := by decide
theorem fa4 : applyG 2 0 [(sA 1, tX), (sA 2, tY)] (sA 2) 0 2 2 0 ⟨#[]⟩ = (0, 0, [], 2) := by
 unfold applyG
 rw [if_pos (.inr (.inr (.inr (by unfold lastGe; show decide (0 ≤ svC (sA 2) (sA 2)) = true; rw [svC_refl]; rfl))))]
theorem fa5 : applyG 2 0 [(sA 1, tX), (sA 1, tX)] (sA 3) 0 2 2 0 ⟨#[]⟩ = (0, 0, [], 2) := by
 unfold applyG
 rw [if_pos (.inr (.inl (by
  cases h : valG 2 0 [(sA 1, tX), (sA 1, tX)] with
  | false => rfl
  | true =>
   have h2 := (val_right h).2
   have h3 := (List.pairwise_cons.1 h2).1 (sA 1, tX) (by simp)
   exact absurd h3 (sv_irrefl _))))]
theorem fa6 : applyG 2 0 [(sA 1, tX), (sA 2, tY)] (sA 3) 2 4 6 0 tX = (0, 0, [], 2) := by
 unfold applyG
 rw [if_pos (.inl rfl)]
theorem ft : threeO 2 0 [(sA 1, tX)] 2 0 [(sA 2, tY)] 2 0 [(sA 1, tX), (sA 2, tY)] = (2, 0, [(sA 2, tY)], 0) := by
 unfold threeO
 rw [fv1, fv2, fv3, if_neg (by simp)]
 have h := three_uniq (val_right fv1) (val_right fv3) (val_right fv2) (r := [(sA 2, tY)]) (by rw [show pickG [(sA 1, tX)] [(sA 2, tY)] [(sA 1, tX), (sA 2, tY)] = [(sA 2, tY)] by decide]) (List.pairwise_singleton _ _)
 rw [← h]
 rfl
theorem fs : showG 2 [(sA 1, tX), (sA 2, tY)] = [tX, tY] := by
 unfold showG
 rw [if_pos rfl]
 refine srtT_ext _ _ (setT_srt _) ?_ fun x => ?_
 · refine List.pairwise_cons.2 ⟨fun y hy => ?_, List.pairwise_singleton _ _⟩
   rw [List.mem_singleton.1 hy, klt_iff]
   decide
 · rw [setT_mem]
   rfl
theorem fk : kindG ⟨#[113, 117, 101, 117, 101]⟩ = 4 := by decide
theorem fw : wordG 2 = ⟨#[115, 101, 116]⟩ := by decide
theorem fd : doG 6 = ⟨#[112, 111, 112]⟩ := by decide
end Kn
end Go.Proofs.YtjlliohjeiclaaaDoor
namespace Go.Proofs.YtjlliohjeiclaaaDoor
open Go.RowKit
section
variable {P : Program} {ops : Array Oper} {Q : Exit → Act → World → Prop} {id : Nat} {base : Array Value} {df : List Deferred} {slots : List Nat} {W0 : World}
theorem ext_val (x : Value) (ix : Nat) : (∃ v, Instr.extract x ix = pure v) ∨ (∃ s, Instr.extract x ix = stuck s) := by
 unfold Instr.extract
 split
 · split
   · exact .inl ⟨_, rfl⟩
   · exact .inr ⟨_, rfl⟩
 · exact .inr ⟨_, rfl⟩
theorem wpOp_ext {i : Nat} {o : Oper} {t : Operand} {ix : Nat} (ho : ops[i]? = some o) (hg : o.guard = none) (hop : o.op = .extract t ix) {K : Act → World → Prop} {a : Act} {w : World} (h : wpOp P ops Q i K a w) :
 ∃ v, K (a.put (dstN ops i) v) w ∧ ∀ (K' : Act → World → Prop) (w2 : World), K' (a.put (dstN ops i) v) w2 → wpOp P ops Q i K' a w2 := by
 have hd : dstN ops i = o.dst := by unfold dstN; rw [ho]; rfl
 rw [hd]
 unfold wpOp at h ⊢
 rw [ho] at h ⊢
 simp only [wanted_none hg, if_true] at h ⊢
 rcases ext_val (a.eval t) ix with ⟨v, hv⟩ | ⟨s, hs⟩
 · have he : execOp a.eval o = pure (.value v) := by
    unfold execOp
    simp [hop, hv]
   refine ⟨v, ?_, fun K' w2 hK' => .inl ?_⟩
   · rcases h with h | ⟨h1, _⟩
     · unfold Oper.wp at h; rw [he] at h; exact h
     · unfold Oper.asks at h1
       rw [he] at h1
       have h2 : noRoomEvent ∈ (#[] : Array _) := h1.1
       cases (Array.not_mem_empty _ h2)
   · unfold Oper.wp; rw [he]; exact hK'
 · exfalso
   have he : execOp a.eval o = (stuck s : Sem Next) := by
    unfold execOp
    simp [hop, hs]
    rfl
   rcases h with h | ⟨h1, _⟩
   · unfold Oper.wp at h; rw [he] at h; exact h
   · unfold Oper.asks at h1
     rw [he] at h1
     have h2 : noRoomEvent ∈ (#[] : Array _) := h1.1
     cases (Array.not_mem_empty _ h2)
def freeB (ops : Array Oper) (i : Nat) : Bool := copyB ops i || match ops[i]? with
 | some o => o.guard.isNone && (match o.op with
  | .extract _ _ => true
  | _ => false)
 | none => false
theorem wpOp_free {i : Nat} (hf : freeB ops i = true) {K : Act → World → Prop} {a : Act} {w : World} (h : wpOp P ops Q i K a w) :
 ∃ v, K (a.put (dstN ops i) v) w ∧ ∀ (K' : Act → World → Prop) (w2 : World), K' (a.put (dstN ops i) v) w2 → wpOp P ops Q i K' a w2 := by
 unfold freeB at hf
 rw [Bool.or_eq_true] at hf
 rcases hf with hf | hf
 · obtain ⟨x, hx⟩ := wpOp_copy (P := P) (Q := Q) hf
   exact ⟨a.eval x, (hx _ _ _).1 h, fun K' w2 hK' => (hx _ _ _).2 hK'⟩
 · cases ho : ops[i]? with
   | none => rw [ho] at hf; cases hf
   | some o =>
    rw [ho] at hf
    simp only [Bool.and_eq_true] at hf
    have hg : o.guard = none := by simpa using hf.1
    have h2 := hf.2
    split at h2
    · rename_i t ix hop
      exact wpOp_ext ho hg hop h
    · cases h2
def blkOf : Value → Nat
 | .pointer (some a) => a.block
 | _ => 0
def ownOK (ops : Array Oper) (s x ix y iy : Nat) : Bool := decide (s < ops.size) && (dstN ops s == none) && (dstN ops ix == some x) && (dstN ops iy == some y) && needsN ops 6 s ix && needsN ops 6 s iy
def freeOK1 (ops : Array Oper) (s : Nat) : Bool := (List.range ops.size).all fun i => i == s || (freeB ops i || needsN ops 6 s i)
theorem relG_own {gs : List Pr} (s x ix y iy : Nat) (ps psS : List (Nat × Nat × Nat)) (hm : P.follows .mixedOrders = true) (hl : gs.length = ops.size) (hps : finOK ops ps = true) (hpsS : stoDeps ops [s] psS = true)
 (hS : ownOK ops s x ix y iy = true) (hfr : freeOK1 ops s = true)
 (hst : ∀ f w, Below W0.heap.size W0 w → FinF gs f w psS → ∀ K : Act → World → Prop, K { tmps := regT base slots f, defers := df } (w.setRow (blkOf (f x)) (f y).cells) → wpOp P ops Q s K { tmps := regT base slots f, defers := df } w)
 (h : ∀ f w, Below W0.heap.size W0 w → FinF gs f w ps → Q .normal { tmps := regT base slots f, defers := df } (w.setRow (blkOf (f x)) (f y).cells)) : RelG P ops Q id base df slots W0 [s] gs := by
 intro hup hsl hinj hsz hall
 have hpS : s < ops.size ∧ dstN ops s = none ∧ dstN ops ix = some x ∧ dstN ops iy = some y ∧ needsN ops 6 s ix = true ∧ needsN ops 6 s iy = true := by
  simp only [ownOK, Bool.and_eq_true, decide_eq_true_eq, beq_iff_eq] at hS
  exact ⟨hS.1.1.1.1.1, hS.1.1.1.1.2, hS.1.1.1.2, hS.1.1.2, hS.1.2, hS.2⟩
 obtain ⟨p1, p2, p3, p4, p5, p6⟩ := hpS
 have hfinS : ∀ (L : Nat → Bool) f w, ClosedL ops L → (∀ i d, dstN ops i = some d → L i = true → lkG gs i (f d) w) → (∀ k ∈ preOf ops s, L k = true) → FinF gs f w psS := by
  intro L f w hc hL hpre
  clear h hst
  induction psS with
  | nil => trivial
  | cons q psS ih =>
   simp only [stoDeps, List.all_cons, Bool.and_eq_true] at hpsS
   obtain ⟨⟨⟨h1, h2⟩, h4⟩, h3⟩ := hpsS
   have hj' : q.1 + q.2.2 + 1 = ops.size := by simpa using h1
   have h5 := hL q.1 q.2.1 (by simpa using h2) (needsN_out hc _ _ _ h4.1 hpre)
   unfold lkG at h5
   rw [if_pos (by omega), show gs.length - 1 - q.1 = q.2.2 by omega] at h5
   exact ⟨⟨f q.2.1, rfl, h5⟩, ih h3⟩
 refine region_inv (fun L a w => ClosedL ops L ∧ ∃ f w', a = { tmps := regT base slots f, defers := df } ∧ Below W0.heap.size W0 w' ∧ (∀ i d, dstN ops i = some d → L i = true → lkG gs i (f d) w') ∧ w = if L s = true then w'.setRow (blkOf (f x)) (f y).cells else w') hm hup
  ⟨(fun _ h => by cases h), fun k => base.getD k undef, W0.drew, by rw [regT_id], (Below.refl _ _).drew, fun _ _ _ h => (by cases h), by rw [if_neg (by simp)]⟩ ?_ ?_
 · rintro i hi L a w ⟨hc, f, w', rfl, hW, hL, rfl⟩ hLi hpre
   have hc' := closedL_next hc hpre
   by_cases his : i = s
   · subst his
     rw [if_neg (by rw [hLi]; simp)]
     refine hst f w' hW (hfinS L f w' hc hL hpre) _ ⟨hc', f, w', rfl, hW, fun j d e hj => ?_, by rw [if_pos (by simp)]⟩
     have hne : j ≠ i := fun e' => by rw [e', p2] at e; cases e
     exact hL j d e (by simpa [hne] using hj)
   · have hso : [s].contains i = false := by simpa using his
     obtain ⟨h1, h2⟩ := hall i (by omega) hso
     have hLs : (s == i || L s) = L s := by
      have : (s == i) = false := by simpa using fun e => his (Eq.symm e)
      rw [this]; rfl
     have hkeep : ∀ v w'', lkG gs i v w'' → Below w'.heap.size w' w'' → ∃ f1, ({ tmps := regT base slots f, defers := df : Act }.put (dstN ops i) v) = { tmps := regT base slots f1, defers := df } ∧ Below W0.heap.size W0 w'' ∧ (∀ j d, dstN ops j = some d → (j == i || L j) = true → lkG gs j (f1 d) w'') ∧ (L s = true → f1 x = f x ∧ f1 y = f y) := by
      intro v w'' hg hb
      have hW' := hW.trans (hb.mono hW.size)
      cases hdi : dstN ops i with
      | none =>
       refine ⟨f, rfl, hW', fun j d e hj => ?_, fun _ => ⟨rfl, rfl⟩⟩
       have hne : j ≠ i := fun e' => by rw [e', hdi] at e; cases e
       have hLj : L j = true := by simpa [hne] using hj
       have hjs : [s].contains j = false := by
        have : j ≠ s := fun e' => by rw [e', p2] at e; cases e
        simpa using this
       exact (hall j (by have := dstN_lt e; omega) hjs).1 _ _ _ (hL j d e hLj) hb
      | some di =>
       refine ⟨updF f di v, ?_, hW', fun j d e hj => ?_, fun hls => ?_⟩
       · show ({ tmps := (regT base slots f).setIfInBounds di v, defers := df } : Act) = _
         rw [regT_put _ _ _ _ _ (hsl i di hdi)]
       · unfold updF
         by_cases hne : j = i
         · subst hne
           rw [hdi] at e
           cases e
           rw [if_pos rfl]
           exact hg
         · have h3 : d ≠ di := fun e' => hne (hinj j i d e (e' ▸ hdi))
           rw [if_neg h3]
           have hLj : L j = true := by simpa [hne] using hj
           have hjs : [s].contains j = false := by
            have : j ≠ s := fun e' => by rw [e', p2] at e; cases e
            simpa using this
           exact (hall j (by have := dstN_lt e; omega) hjs).1 _ _ _ (hL j d e hLj) hb
       · have hix : L ix = true := needsN_out hc _ _ _ p5 (hc s hls)
         have hiy : L iy = true := needsN_out hc _ _ _ p6 (hc s hls)
         unfold updF
         constructor
         · rw [if_neg]
           intro e
           have := hinj ix i x p3 (e ▸ hdi)
           rw [this, hLi] at hix
           cases hix
         · rw [if_neg]
           intro e
           have := hinj iy i y p4 (e ▸ hdi)
           rw [this, hLi] at hiy
           cases hiy
     cases hls : L s with
     | false =>
      rw [if_neg (by simp)]
      refine h2 f w' hW (fun j hj d e => hL j d e (hpre j hj)) _ fun v w'' hg hb => ?_
      obtain ⟨f1, k2, k3, k4, _⟩ := hkeep v w'' hg hb
      exact ⟨hc', f1, w'', k2, k3, k4, by show w'' = if (s == i || L s) = true then w''.setRow (blkOf (f1 x)) (f1 y).cells else w''; rw [hLs, hls, if_neg (by simp)]⟩
     | true =>
      rw [if_pos rfl]
      have hf := List.all_eq_true.1 hfr i (List.mem_range.2 hi)
      simp only [Bool.or_eq_true] at hf
      have hcp : freeB ops i = true := by
       rcases hf with hf | hf | hf
       · exact absurd (by simpa using hf) his
       · exact hf
       · have := needsN_out hc _ _ _ hf (hc s hls)
         rw [hLi] at this
         cases this
      have h3 := h2 f w' hW (fun j hj d e => hL j d e (hpre j hj)) (fun a1 w1 => ∃ v, a1 = { tmps := regT base slots f, defers := df : Act }.put (dstN ops i) v ∧ lkG gs i v w1 ∧ Below w'.heap.size w' w1) (fun v w'' hg hb => ⟨v, rfl, hg, hb⟩)
      obtain ⟨v0, ⟨v, e1, e2, e3⟩, hgo⟩ := wpOp_free hcp h3
      refine hgo _ _ ?_
      rw [e1]
      obtain ⟨f1, k2, k3, k4, k5⟩ := hkeep v w' e2 e3
      obtain ⟨q1, q2⟩ := k5 hls
      exact ⟨hc', f1, w', k2, k3, k4, by show w'.setRow (blkOf (f x)) (f y).cells = if (s == i || L s) = true then w'.setRow (blkOf (f1 x)) (f1 y).cells else w'; rw [hLs, hls, if_pos rfl, q1, q2]⟩
 · rintro L a w ⟨hc, f, w', rfl, hW, hL, rfl⟩ hLall
   rw [if_pos (hLall _ p1)]
   exact h f w' hW (finF_of hl (fun j hj d e => hL j d e (hLall j hj)) hps)
theorem sto_own {i : Nat} {o : Oper} {f : Nat → Value} {w2 : World} {K : Act → World → Prop} (ty : TypeId) (x y : Nat) (b : Nat) (cells : Array Value) (t : TypeId) (old : Array Value) (ho : ops[i]? = some o) (hg : o.guard = none) (hd : o.dst = none) (hop : o.op = .store ty (.tmp x) (.tmp y))
 (hxs : slots.contains x = true) (hxz : decide (x < base.size) = true) (hx : f x = .pointer (some ⟨b, 0, none⟩)) (hys : slots.contains y = true) (hyz : decide (y < base.size) = true) (hy : f y = .agg cells) (hgr : w2.heap[b]? = some (.cells old t (0, 0))) (hi : (P.info? ty).map (·.size) = some cells.size) (hold : old.size = cells.size) (h1 : cells.all (·.oneCell') = true)
 (hK : K { tmps := regT base slots f, defers := df } (w2.setRow (blkOf (f x)) (f y).cells)) : wpOp P ops Q i K { tmps := regT base slots f, defers := df } w2 := by
 unfold wpOp
 rw [ho]
 simp only [wanted_none hg, if_true]
 have hx' : (regT base slots f).getD x undef = .pointer (some ⟨b, 0, none⟩) := (regT_in (by simpa using hxs) (of_decide_eq_true hxz)).trans hx
 have hy' : (regT base slots f).getD y undef = .agg cells := (regT_in (by simpa using hys) (of_decide_eq_true hyz)).trans hy
 refine .inl (wp_store_row ty (.tmp x) (.tmp y) hop b cells hx' hy' t old hgr hi hold h1 ?_)
 rw [hd]
 rw [hx, hy] at hK
 exact hK
end
end Go.Proofs.YtjlliohjeiclaaaDoor
namespace Go.Proofs.YtjlliohjeiclaaaDoor
open Go.RowKit
section
variable {P : Program} {ops : Array Oper} {Q : Exit → Act → World → Prop} {id : Nat} {base : Array Value} {df : List Deferred} {slots : List Nat} {W0 : World}
def oneOK (ops : Array Oper) (s y iy : Nat) : Bool := decide (s < ops.size) && (dstN ops s == none) && (dstN ops iy == some y) && needsN ops 6 s iy
theorem relG_one {gs : List Pr} (s b y iy : Nat) (ps psS : List (Nat × Nat × Nat)) (hm : P.follows .mixedOrders = true) (hl : gs.length = ops.size) (hps : finOK ops ps = true) (hpsS : stoDeps ops [s] psS = true)
 (hS : oneOK ops s y iy = true) (hfr : freeOK1 ops s = true)
 (hst : ∀ f w, Below W0.heap.size W0 w → FinF gs f w psS → ∀ K : Act → World → Prop, K { tmps := regT base slots f, defers := df } (w.setRow b (f y).cells) → wpOp P ops Q s K { tmps := regT base slots f, defers := df } w)
 (h : ∀ f w, Below W0.heap.size W0 w → FinF gs f w ps → Q .normal { tmps := regT base slots f, defers := df } (w.setRow b (f y).cells)) : RelG P ops Q id base df slots W0 [s] gs := by
 intro hup hsl hinj hsz hall
 have hpS : s < ops.size ∧ dstN ops s = none ∧ dstN ops iy = some y ∧ needsN ops 6 s iy = true := by
  simp only [oneOK, Bool.and_eq_true, decide_eq_true_eq, beq_iff_eq] at hS
  exact ⟨hS.1.1.1, hS.1.1.2, hS.1.2, hS.2⟩
 obtain ⟨p1, p2, p4, p6⟩ := hpS
 have hfinS : ∀ (L : Nat → Bool) f w, ClosedL ops L → (∀ i d, dstN ops i = some d → L i = true → lkG gs i (f d) w) → (∀ k ∈ preOf ops s, L k = true) → FinF gs f w psS := by
  intro L f w hc hL hpre
  clear h hst
  induction psS with
  | nil => trivial
  | cons q psS ih =>
   simp only [stoDeps, List.all_cons, Bool.and_eq_true] at hpsS
   obtain ⟨⟨⟨h1, h2⟩, h4⟩, h3⟩ := hpsS
   have hj' : q.1 + q.2.2 + 1 = ops.size := by simpa using h1
   have h5 := hL q.1 q.2.1 (by simpa using h2) (needsN_out hc _ _ _ h4.1 hpre)
   unfold lkG at h5
   rw [if_pos (by omega), show gs.length - 1 - q.1 = q.2.2 by omega] at h5
   exact ⟨⟨f q.2.1, rfl, h5⟩, ih h3⟩
 refine region_inv (fun L a w => ClosedL ops L ∧ ∃ f w', a = { tmps := regT base slots f, defers := df } ∧ Below W0.heap.size W0 w' ∧ (∀ i d, dstN ops i = some d → L i = true → lkG gs i (f d) w') ∧ w = if L s = true then w'.setRow b (f y).cells else w') hm hup
  ⟨(fun _ h => by cases h), fun k => base.getD k undef, W0.drew, by rw [regT_id], (Below.refl _ _).drew, fun _ _ _ h => (by cases h), by rw [if_neg (by simp)]⟩ ?_ ?_
 · rintro i hi L a w ⟨hc, f, w', rfl, hW, hL, rfl⟩ hLi hpre
   have hc' := closedL_next hc hpre
   by_cases his : i = s
   · subst his
     rw [if_neg (by rw [hLi]; simp)]
     refine hst f w' hW (hfinS L f w' hc hL hpre) _ ⟨hc', f, w', rfl, hW, fun j d e hj => ?_, by rw [if_pos (by simp)]⟩
     have hne : j ≠ i := fun e' => by rw [e', p2] at e; cases e
     exact hL j d e (by simpa [hne] using hj)
   · have hso : [s].contains i = false := by simpa using his
     obtain ⟨h1, h2⟩ := hall i (by omega) hso
     have hLs : (s == i || L s) = L s := by
      have : (s == i) = false := by simpa using fun e => his (Eq.symm e)
      rw [this]; rfl
     have hkeep : ∀ v w'', lkG gs i v w'' → Below w'.heap.size w' w'' → ∃ f1, ({ tmps := regT base slots f, defers := df : Act }.put (dstN ops i) v) = { tmps := regT base slots f1, defers := df } ∧ Below W0.heap.size W0 w'' ∧ (∀ j d, dstN ops j = some d → (j == i || L j) = true → lkG gs j (f1 d) w'') ∧ (L s = true → f1 y = f y) := by
      intro v w'' hg hb
      have hW' := hW.trans (hb.mono hW.size)
      cases hdi : dstN ops i with
      | none =>
       refine ⟨f, rfl, hW', fun j d e hj => ?_, fun _ => rfl⟩
       have hne : j ≠ i := fun e' => by rw [e', hdi] at e; cases e
       have hLj : L j = true := by simpa [hne] using hj
       have hjs : [s].contains j = false := by
        have : j ≠ s := fun e' => by rw [e', p2] at e; cases e
        simpa using this
       exact (hall j (by have := dstN_lt e; omega) hjs).1 _ _ _ (hL j d e hLj) hb
      | some di =>
       refine ⟨updF f di v, ?_, hW', fun j d e hj => ?_, fun hls => ?_⟩
       · show ({ tmps := (regT base slots f).setIfInBounds di v, defers := df } : Act) = _
         rw [regT_put _ _ _ _ _ (hsl i di hdi)]
       · unfold updF
         by_cases hne : j = i
         · subst hne
           rw [hdi] at e
           cases e
           rw [if_pos rfl]
           exact hg
         · have h3 : d ≠ di := fun e' => hne (hinj j i d e (e' ▸ hdi))
           rw [if_neg h3]
           have hLj : L j = true := by simpa [hne] using hj
           have hjs : [s].contains j = false := by
            have : j ≠ s := fun e' => by rw [e', p2] at e; cases e
            simpa using this
           exact (hall j (by have := dstN_lt e; omega) hjs).1 _ _ _ (hL j d e hLj) hb
       · have hiy : L iy = true := needsN_out hc _ _ _ p6 (hc s hls)
         unfold updF
         rw [if_neg]
         intro e
         have := hinj iy i y p4 (e ▸ hdi)
         rw [this, hLi] at hiy
         cases hiy
     cases hls : L s with
     | false =>
      rw [if_neg (by simp)]
      refine h2 f w' hW (fun j hj d e => hL j d e (hpre j hj)) _ fun v w'' hg hb => ?_
      obtain ⟨f1, k2, k3, k4, _⟩ := hkeep v w'' hg hb
      exact ⟨hc', f1, w'', k2, k3, k4, by show w'' = if (s == i || L s) = true then w''.setRow b (f1 y).cells else w''; rw [hLs, hls, if_neg (by simp)]⟩
     | true =>
      rw [if_pos rfl]
      have hf := List.all_eq_true.1 hfr i (List.mem_range.2 hi)
      simp only [Bool.or_eq_true] at hf
      have hcp : freeB ops i = true := by
       rcases hf with hf | hf | hf
       · exact absurd (by simpa using hf) his
       · exact hf
       · have := needsN_out hc _ _ _ hf (hc s hls)
         rw [hLi] at this
         cases this
      have h3 := h2 f w' hW (fun j hj d e => hL j d e (hpre j hj)) (fun a1 w1 => ∃ v, a1 = { tmps := regT base slots f, defers := df : Act }.put (dstN ops i) v ∧ lkG gs i v w1 ∧ Below w'.heap.size w' w1) (fun v w'' hg hb => ⟨v, rfl, hg, hb⟩)
      obtain ⟨v0, ⟨v, e1, e2, e3⟩, hgo⟩ := wpOp_free hcp h3
      refine hgo _ _ ?_
      rw [e1]
      obtain ⟨f1, k2, k3, k4, k5⟩ := hkeep v w' e2 e3
      have q2 := k5 hls
      exact ⟨hc', f1, w', k2, k3, k4, by show w'.setRow b (f y).cells = if (s == i || L s) = true then w'.setRow b (f1 y).cells else w'; rw [hLs, hls, if_pos rfl, q2]⟩
 · rintro L a w ⟨hc, f, w', rfl, hW, hL, rfl⟩ hLall
   rw [if_pos (hLall _ p1)]
   exact h f w' hW (finF_of hl (fun j hj d e => hL j d e (hLall j hj)) hps)
end
end Go.Proofs.YtjlliohjeiclaaaDoor
