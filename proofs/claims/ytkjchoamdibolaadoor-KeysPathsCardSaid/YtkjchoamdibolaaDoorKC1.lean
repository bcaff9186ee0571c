/- Words, contracts and walks that the proof stands on (Mem Cells KsA KuA Mem2 Over Tail KsB KuB CellsB Chn CellsN). -/
import Derived.BigQuiet
import Derived.Deep.AppendSrc
import Derived.Deep.DeepMust
import Derived.Deep.Draws
import Derived.Deep.QuietTactic
import Derived.Deep.RegionHeld
import Derived.Deep.RegionHeld3
import Derived.Deep.Upon
import Derived.Laws.AppendOwn
import Derived.Laws.RangeAny
import Derived.Lib.Hide
import Derived.Lib.TrimUEq
import Derived.Lib.ValidAsc
import Derived.Lib.ValidU
import Derived.LoopTactic
import Derived.Maps.AppendAt
import Derived.Outline
import Derived.OwnWalk
import Derived.RegionTactic
import Derived.Shelf.Small.Strs
import Derived.Shelf.Small.Wraps
import Derived.Shelf.Strings.BuilderK
import Derived.Shelf.Strings.Cut
import Derived.Shelf.Unicode.ValidAny
import Derived.Test.YtkjchoamdibolaaDoorRows
import Derived.WalkKit
namespace Go.Proofs.YtkjchoamdibolaaDoor
open Go.RowKit
def BytesAt (w : World) (a : Option Addr) (l : List UInt8) : Prop :=
 ∀ i (h : i < l.length), ∃ b off, a = some ⟨b, off, none⟩ ∧ w.cell? ⟨b, off + i, none⟩ = some (.int .u8 (l[i].toNat : Int))
theorem BytesAt.nil (w : World) (a : Option Addr) : BytesAt w a [] := fun i h => by simp at h
theorem cell_lt {w : World} {a : Addr} {v : Value} (h : w.cell? a = some v) : a.block < w.heap.size := block_lt_of_cell h
theorem BytesAt.below {w w' : World} {a : Option Addr} {l : List UInt8} {B : Nat} (h : BytesAt w a l) (hb : Below B w w') (hB : B = w.heap.size) : BytesAt w' a l := by
 intro i hi
 obtain ⟨b, off, rfl, hc⟩ := h i hi
 have hl := cell_lt hc
 exact ⟨b, off, rfl, by rw [hb.cell (p := ⟨b, off + i, none⟩) (by simpa [hB] using hl)]; exact hc⟩
def ListsAt (w : World) (a : Option Addr) (ll : List (List UInt8)) : Prop :=
 ∀ i (h : i < ll.length), ∃ b off a' cap, a = some ⟨b, off, none⟩ ∧ w.cell? ⟨b, off + i, none⟩ = some (.slice a' ll[i].length cap) ∧ BytesAt w a' ll[i] ∧ ll[i].length ≤ 9223372036854775807
theorem ListsAt.below {w w' : World} {a : Option Addr} {ll : List (List UInt8)} {B : Nat} (h : ListsAt w a ll) (hb : Below B w w') (hB : B = w.heap.size) : ListsAt w' a ll := by
 intro i hi
 obtain ⟨b, off, a', cap, rfl, hc, hl, hm⟩ := h i hi
 have hlt := cell_lt hc
 exact ⟨b, off, a', cap, rfl, by rw [hb.cell (p := ⟨b, off + i, none⟩) (by simpa [hB] using hlt)]; exact hc, hl.below hb hB, hm⟩
theorem below_new (w : World) (o : Obj) : Below w.heap.size w (w.alloc o) := (Below.refl _ _).alloc (Nat.le_refl _) _
theorem cell_new (w : World) (cs : Array Value) (t : TypeId) (fr : Nat × Nat) (i : Nat) : (w.alloc (.cells cs t fr)).cell? ⟨w.heap.size, i, none⟩ = cs[i]? := cell_of_row _ _ _ _ _ _ (heap_alloc_new w _)
theorem below_drews {B : Nat} {a w : World} (h : Below B a w) (n : Nat) : Below B a (w.drewN n) := h.trans ⟨rfl, rfl, rfl, Nat.le_refl _, fun _ _ => rfl⟩
theorem ListsAt.new (w : World) (t : TypeId) (fr : Nat × Nat) (vs : List Value) (ll : List (List UInt8))
 (h : ∀ i (h : i < ll.length), ∃ a' cap, vs[i]? = some (.slice a' ll[i].length cap) ∧ BytesAt w a' ll[i] ∧ ll[i].length ≤ 9223372036854775807) :
 ListsAt (w.alloc (.cells vs.toArray t fr)) (some ⟨w.heap.size, 0, none⟩) ll := by
 intro i hi
 obtain ⟨a', cap, hv, hl, hm⟩ := h i hi
 refine ⟨w.heap.size, 0, a', cap, rfl, ?_, hl.below (below_new w _) rfl, hm⟩
 rw [Nat.zero_add, cell_new]
 simpa using hv
theorem heap_setCells {g : Nat} {e : TypeId} {fr : Nat × Nat} : ∀ (vs : List Value) (o : Nat) (w : World) (cur : Array Value), w.heap[g]? = some (.cells cur e fr) → o + vs.length ≤ cur.size →
 ∃ cur', (w.setCells g o vs).heap[g]? = some (.cells cur' e fr) ∧ cur'.size = cur.size ∧ cur'.toList.take (o + vs.length) = cur.toList.take o ++ vs
 | [], o, w, cur, h, _ => ⟨cur, h, rfl, by simp⟩
 | v :: r, o, w, cur, h, hl => by
  have hl' : o + 1 + r.length ≤ cur.size := by simp at hl; omega
  have h1 : (w.setCell ⟨g, o, none⟩ v).heap[g]? = some (.cells (cur.setIfInBounds o v) e fr) := by
   rw [setCell_eq_setRow w g o cur e fr v h]
   exact setRow_heap w g cur _ e fr h
  obtain ⟨cur', h2, h3, h4⟩ := heap_setCells r (o + 1) _ _ h1 (by simpa using hl')
  refine ⟨cur', h2, by simpa using h3, ?_⟩
  rw [show o + (v :: r).length = o + 1 + r.length by simp; omega, h4]
  rw [Array.toList_setIfInBounds, List.take_succ_eq_append_getElem (by simp; omega)]
  simp [List.take_set]
  exact List.set_eq_of_length_le (List.length_take_le _ _)
theorem setCells_grown {w : World} {g : Nat} (o : Nat) (vs : List Value) : w.grownBy (w.setCells g o vs) (some g) :=
 ⟨World.os_setCells w g o vs, by
  induction vs generalizing o w with
  | nil => rfl
  | cons v r ih => exact (ih (w := w.setCell ⟨g, o, none⟩ v) (o + 1)).trans rfl, World.output_setCells w g o vs, by
  induction vs generalizing o w with
  | nil => exact Nat.le_refl _
  | cons v r ih => exact Nat.le_trans (by simp [World.setCell]) (ih (w := w.setCell ⟨g, o, none⟩ v) (o + 1)),
  fun k hk hne => World.heap_setCells_other w g o vs hk (fun e => hne (by rw [e]))⟩
section
variable {P : Program} (w : World)
theorem run_append_own_src (base : Nat) (t tx ty e : TypeId) (i : TypeInfo) (z : Value) (size bytes : Nat) (ht : P.underlying t = some (.slice e)) (hi : P.info? e = some i) (hz : i.zero = some z)
 (hsize : i.size = size) (hby : i.bytes = bytes) (hzs : z.cells.size = size)
 (v : Value) (n : Nat) (xs : List Value) (hown : w.ownsRow base e size v n xs)
 (x : Value) (m : Nat) (news : List Value) (hs : Src P size tx x m news w)
 (h63 : n + m ≤ maxLen) (hbytes : (n + m) * bytes ≤ 140737488355328) (hbase : base ≤ w.heap.size) :
 ∃ v' w', (Builtin.append_ #[t, tx] ty #[v, x]).run P w = .ok v' w' ∧ w'.ownsRow base e size v' (n + m) (xs ++ news) ∧ w.grownBy w' v.ownBlock ∧
  (v'.ownBlock = v.ownBlock ∨ v'.ownBlock = some w.heap.size) ∧ (w.heap.size < w'.heap.size ∨ v'.ownBlock = v.ownBlock) := by
 subst hsize
 subst hby
 have hsmall : n + m ≤ 9223372036854775807 := by simp only [maxLen] at h63; omega
 have hlen : (xs ++ news).length = (n + m) * i.size := by rw [List.length_append, hown.1, hs.newsLen, Nat.add_mul]
 have grown : ∀ (old : Nat), old < n + m → ∀ (row : Option Nat),
  (w.drew.alloc (.cells ((xs ++ news).toArray ++ Builtin.zeroCells z.cells (grownCap w (n + m) old e - (n + m))) e)).ownsRow base e i.size
   (.slice (some ⟨w.heap.size, 0, none⟩) (n + m) (grownCap w (n + m) old e)) (n + m) (xs ++ news) ∧
  w.grownBy (w.drew.alloc (.cells ((xs ++ news).toArray ++ Builtin.zeroCells z.cells (grownCap w (n + m) old e - (n + m))) e)) row := by
  intro old ho row
  have hge := grownCap_ge w (n + m) old e
  have hcm : grownCap w (n + m) old e ≤ maxLen := grownCap_le_maxLen w (n + m) old e h63
  refine ⟨⟨hlen, .inr ⟨w.heap.size, _, _, rfl, hbase, heap_alloc_new w.drew _, hge, hcm, ?_, ?_⟩⟩, ⟨rfl, rfl, rfl, by simp, fun k hk _ => heap_alloc_old w.drew _ hk⟩⟩
  · simp only [Array.size_append, List.size_toArray, size_zeroCells, hzs, hlen, ← Nat.add_mul]
    congr 1
    omega
  · simp only [Array.toList_append]
    rw [← hlen]
    exact List.take_left
 rcases hown.2 with ⟨rfl, rfl⟩ | ⟨g, cap, cur, rfl, hbg, hg, hnc, hcm, hcs, htake⟩
 · have hx : xs = [] := List.eq_nil_of_length_eq_zero (by simpa using hown.1)
   subst hx
   by_cases hm : m = 0
   · subst hm
     have hn : news = [] := List.eq_nil_of_length_eq_zero (by simpa using hs.newsLen)
     subst hn
     refine ⟨.slice none 0 0, w, ?_, World.ownsRow_nil w base e i.size, ⟨rfl, rfl, rfl, Nat.le_refl _, fun _ _ _ => rfl⟩, .inl rfl, .inr rfl⟩
     rcases hs.kind with ⟨e', hk⟩ | hk <;> simp [Builtin.append_, run_underlying ht, run_underlying hk, sizeOf, typeInfo, hi, hs.len, hs.cells]
   · have hr := run_append_grow_src (P := P) w t tx ty e i z ht hi hz none 0 0 [] (run_firstCells_none w.drew i.size 0 0 0) x m news hs (by omega) (by omega)
      (growslice_fits (by omega) (by simpa using hbytes))
     have hgr := grown 0 (by omega) (Value.ownBlock (.slice none 0 0))
     exact ⟨_, _, hr, hgr.1, hgr.2, .inr rfl, .inl (by simp)⟩
 · by_cases hroom : n + m ≤ cap
   · have hfit : n * i.size + news.length ≤ cur.size := by rw [hs.newsLen, hcs, ← Nat.add_mul]; exact Nat.mul_le_mul_right _ hroom
     have hr := run_append_room_src (P := P) w t tx ty e i ht hi g 0 n cap x m news hs hroom
      (fun j hj => by rw [cell_of_row w g _ cur e _ hg]; simp; omega) (fun j hj => frozen_of_row w g _ cur e hg)
     obtain ⟨cur', h1, h2, h3⟩ := heap_setCells news (n * i.size) w cur hg hfit
     refine ⟨_, _, hr, ⟨hlen, .inr ⟨g, cap, cur', rfl, hbg, by simpa using h1, hroom, hcm, h2.trans hcs, ?_⟩⟩, setCells_grown _ _, .inl rfl, .inr rfl⟩
     rw [← htake, ← h3, Nat.add_mul, hs.newsLen]
   · have hr := run_append_grow_src (P := P) w t tx ty e i z ht hi hz (some ⟨g, 0, none⟩) n cap xs
      (run_firstCells_some w.drew i.size n ⟨g, 0, none⟩ n cap xs hown.1 (by simpa using hown.cells (g := g) rfl)) x m news hs (by omega) (by omega) (growslice_fits (by omega) hbytes)
     have hgr := grown cap (by omega) (Value.ownBlock (.slice (some ⟨g, 0, none⟩) n cap))
     exact ⟨_, _, hr, hgr.1, hgr.2, .inr rfl, .inl (by simp)⟩
theorem wpList_append_src {ops : Array Oper} {rest : List Oper} {o : Oper} {a : Act} {Q : Exit → Act → World → Prop} (hgd : o.guard = none) (s x : Operand) (t tx : TypeId)
 (ho : o.op = .call { callee := .builtin .append, args := #[s, x], argTypes := #[t, tx] })
 (base : Nat) (e : TypeId) (i : TypeInfo) (z : Value) (size bytes : Nat) (ht : P.underlying t = some (.slice e)) (hi : P.info? e = some i) (hz : i.zero = some z)
 (hsize : i.size = size) (hby : i.bytes = bytes) (hzs : z.cells.size = size)
 (v : Value) (n : Nat) (xs : List Value) (hv : a.eval s = v) (hown : w.ownsRow base e size v n xs)
 (xv : Value) (m : Nat) (news : List Value) (hx : a.eval x = xv) (hs : Src P size tx xv m news w)
 (h63 : n + m ≤ maxLen) (hbytes : (n + m) * bytes ≤ 140737488355328) (hbase : base ≤ w.heap.size)
 (h : ∀ v' w', w'.ownsRow base e size v' (n + m) (xs ++ news) → w.grownBy w' v.ownBlock → (v'.ownBlock = v.ownBlock ∨ v'.ownBlock = some w.heap.size) → wpList P ops Q rest (a.put o.dst v') w') : wpList P ops Q (o :: rest) a w :=
 wpList_plain hgd fun K hK => by
  obtain ⟨v', w', hr, h2, h3, h4, _⟩ := run_append_own_src (P := P) w base t tx o.type e i z size bytes ht hi hz hsize hby hzs v n xs hown xv m news hs h63 hbytes hbase
  unfold Oper.wp execOp
  simp only [ho, resolve, invoke, builtin, Sem.run_bind, Sem.run_pure, Result.andThen_ok, List.map_toArray, List.map_cons, List.map_nil, hv, hx, hr]
  exact hK _ _ (h v' w' h2 h3 h4)
end
def bvs (l : List UInt8) : List Value := l.map fun c => Value.int .u8 (c.toNat : Int)
theorem bvs_append (l m : List UInt8) : bvs (l ++ m) = bvs l ++ bvs m := by simp [bvs]
theorem bvs_length (l : List UInt8) : (bvs l).length = l.length := by simp [bvs]
theorem bvs_one (l : List UInt8) : ∀ u ∈ bvs l, u.oneCell' = true := fun u hu => by
 obtain ⟨_, _, rfl⟩ := List.mem_map.1 hu
 rfl
theorem Addr_add (b o j : Nat) : (⟨b, o, none⟩ : Addr).add j = ⟨b, o + j, none⟩ := by unfold Addr.add; split <;> simp_all
theorem BytesAt.src {P : Program} {w : World} {a : Option Addr} {l : List UInt8} (h : BytesAt w a l) {tx e' : TypeId} (hk : P.underlying tx = some (.slice e')) (cap : Nat) : Src P 1 tx (.slice a l.length cap) l.length (bvs l) w := by
 cases a with
 | none =>
  have : l = [] := by
   cases l with
   | nil => rfl
   | cons c r => obtain ⟨b, off, hh, _⟩ := h 0 (by simp); cases hh
  subst this
  exact Src.ofNil w hk cap
 | some a =>
  refine Src.ofSlice w hk a _ cap (bvs l) (by simp [bvs]) (fun j u hu => ?_) (bvs_one l)
  have hj : j < l.length := by
   have := (List.getElem?_eq_some_iff.1 hu).1
   simpa [bvs] using this
  obtain ⟨b, off, hh, hc⟩ := h j hj
  cases hh
  rw [Addr_add, hc]
  rw [← hu]; simp [bvs, hj]
theorem own_cell {w : World} {base n : Nat} {e : TypeId} {a : Option Addr} {len cap : Nat} {xs : List Value} (h : w.ownsRow base e 1 (.slice a len cap) n xs) (i : Nat) (u : Value) (hi : xs[i]? = some u) :
 ∃ g, a = some ⟨g, 0, none⟩ ∧ base ≤ g ∧ w.cell? ⟨g, i, none⟩ = some u ∧ (∀ j, w.frozen? ⟨g, j, none⟩ = false) ∧ len = n := by
 have hlt := (List.getElem?_eq_some_iff.1 hi).1
 rcases h.2 with ⟨hv, hn⟩ | ⟨g, cap', cur, hv, hb, hg, hnc, _, hcs, ht⟩
 · have := h.1; omega
 · have hcap : len = n ∧ a = some ⟨g, 0, none⟩ := by
    simp only [Value.slice.injEq] at hv
    exact ⟨hv.2.1, hv.1⟩
   obtain ⟨rfl, rfl⟩ := hcap
   refine ⟨g, rfl, hb, ?_, fun j => frozen_of_row w g j cur e hg, rfl⟩
   rw [cell_of_row w g i cur e _ hg]
   rw [← ht, List.getElem?_take] at hi
   split at hi
   · simpa using hi
   · cases hi
theorem own_slice {w : World} {base size n : Nat} {e : TypeId} {v : Value} {xs : List Value} (h : w.ownsRow base e size v n xs) : ∃ a cap, v = .slice a n cap ∧ n ≤ cap ∧ cap ≤ maxLen := by
 rcases h.2 with ⟨rfl, rfl⟩ | ⟨g, cap', cur, hv, _, _, h1, h2, _⟩
 · exact ⟨none, 0, rfl, Nat.le_refl _, Nat.zero_le _⟩
 · exact ⟨_, cap', hv, h1, h2⟩
theorem own_bytes {w : World} {base n : Nat} {e : TypeId} {a : Option Addr} {len cap : Nat} {l : List UInt8} (h : w.ownsRow base e 1 (.slice a len cap) n (bvs l)) : BytesAt w a l := by
 intro i hi
 obtain ⟨g, rfl, _, hc, _⟩ := own_cell h i (.int .u8 (l[i].toNat : Int)) (by simp [bvs, hi])
 exact ⟨g, 0, rfl, by rw [Nat.zero_add]; exact hc⟩
theorem own_below {w w' : World} {base size n B : Nat} {e : TypeId} {v : Value} {xs : List Value} (h : w.ownsRow base e size v n xs) (hb : Below B w w') (hB : ∀ k, v.ownBlock = some k → k < B) : w'.ownsRow base e size v n xs := by
 refine ⟨h.1, ?_⟩
 rcases h.2 with hn | ⟨g, cap', cur, rfl, h1, h2, r⟩
 · exact .inl hn
 · exact .inr ⟨g, cap', cur, rfl, h1, by rw [hb.block g (hB g rfl)]; exact h2, r⟩
theorem own_later {w w' : World} {base size n B : Nat} {e : TypeId} {v : Value} {xs : List Value} (h : w.ownsRow base e size v n xs) (hb : Below B w w') (hB : w.heap.size ≤ B) : w'.ownsRow base e size v n xs :=
 own_below h hb fun k hk => Nat.lt_of_lt_of_le (h.lt k hk).2 hB
theorem own_grown {w w' : World} {base size n : Nat} {row : Option Nat} {e : TypeId} {v : Value} {xs : List Value} (h : w.ownsRow base e size v n xs) (hg : w.grownBy w' row) (hr : ∀ k, v.ownBlock = some k → row ≠ some k) : w'.ownsRow base e size v n xs := by
 refine ⟨h.1, ?_⟩
 rcases h.2 with hn | ⟨g, cap', cur, rfl, h1, h2, r⟩
 · exact .inl hn
 · exact .inr ⟨g, cap', cur, rfl, h1, by rw [hg.block g ((h.lt g rfl).2) (fun e => hr g rfl e.symm)]; exact h2, r⟩
theorem own_set {w : World} {base n g cap : Nat} {e : TypeId} {xs : List Value} (h : w.ownsRow base e 1 (.slice (some ⟨g, 0, none⟩) n cap) n xs) (i : Nat) (u : Value) :
 (w.setCell ⟨g, i, none⟩ u).ownsRow base e 1 (.slice (some ⟨g, 0, none⟩) n cap) n (xs.set i u) := by
 refine ⟨by simpa using h.1, ?_⟩
 rcases h.2 with ⟨hv, _⟩ | ⟨g', cap', cur, hv, h1, h2, h3, h4, h5, h6⟩
 · cases hv
 · simp only [Value.slice.injEq, Option.some.injEq, Addr.mk.injEq] at hv
   obtain ⟨⟨rfl, _⟩, _, rfl⟩ := hv
   refine .inr ⟨g, cap, cur.setIfInBounds i u, rfl, h1, heap_setCell_same w g i cur e u h2, h3, h4, by simpa using h5, ?_⟩
   rw [Array.toList_setIfInBounds, List.take_set, h6]
theorem own_new (w : World) (base : Nat) (e : TypeId) (vs : List Value) (hb : base ≤ w.heap.size) (hm : vs.length ≤ maxLen) : (w.alloc (.cells vs.toArray e)).ownsRow base e 1 (.slice (some ⟨w.heap.size, 0, none⟩) vs.length vs.length) vs.length vs :=
 ⟨by simp, .inr ⟨w.heap.size, vs.length, vs.toArray, rfl, hb, heap_alloc_new w _, Nat.le_refl _, hm, by simp, by simp⟩⟩
theorem conv_bytes {P : Program} {w : World} {a : Option Addr} {l : List UInt8} (h : BytesAt w a l) (src e dst : TypeId) (hs : P.underlying src = some (.slice e)) (he : P.underlying e = some (.int .u8)) (hd : P.underlying dst = some .string) (n cap : Nat) (hn : n = l.length) :
 (convert src dst (.slice a n cap)).run P w = .ok (.string ⟨l.toArray⟩) w := by
 subst hn
 rw [run_convert_bytes_string w src dst e a _ cap hs he hd]
 cases a with
 | none =>
  have : l = [] := by
   cases l with
   | nil => rfl
   | cons c r => obtain ⟨b, off, hh, _⟩ := h 0 (by simp); cases hh
  subst this
  simp [Conv.bytesToString]
  rfl
 | some a =>
  have hr := run_loadCells_list (P := P) w a (bvs l) (fun j u hu => by
   have hj : j < l.length := by
    have := (List.getElem?_eq_some_iff.1 hu).1
    simpa [bvs] using this
   obtain ⟨b, off, hh, hc⟩ := h j hj
   cases hh
   rw [Addr_add, hc]
   rw [← hu]; simp [bvs, hj])
  have he : (l.map fun c => (c.toNat : Int)).map (Value.int .u8) = bvs l := by simp [bvs]
  rw [run_bytesToString w a l.length cap (l.map fun c => (c.toNat : Int)) (by rw [he]; simpa [bvs_length] using hr)]
  congr 2
  have key : ∀ (l : List UInt8) (r : ByteArray), (l.map fun c => (c.toNat : Int)).foldl (fun r n => r.push (UInt8.ofNat n.toNat)) r = ⟨r.data ++ l.toArray⟩ := by
   intro l
   induction l with
   | nil => intro r; simp
   | cons c l ih =>
    intro r
    rw [List.map_cons, List.foldl_cons, ih]
    apply ByteArray.ext
    simp [ByteArray.push]
  rw [key]
  apply ByteArray.ext
  simp [ByteArray.empty, ByteArray.emptyWithCapacity]
  rfl
def subAddr (a : Option Addr) (cap l : Nat) : Option Addr := if cap = l then a else a.map (·.add l)
theorem BytesAt.sub {w : World} {a : Option Addr} {all : List UInt8} (h : BytesAt w a all) (cap l m : Nat) (hm : l + m ≤ all.length) (hc : all.length ≤ cap) : BytesAt w (subAddr a cap l) ((all.drop l).take m) := by
 intro i hi
 have him : i < m := by simp at hi; omega
 obtain ⟨b, off, rfl, hcell⟩ := h (l + i) (by omega)
 refine ⟨b, off + l, ?_, ?_⟩
 · unfold subAddr
   rw [if_neg (by omega)]
   simp [Addr_add]
 · rw [Nat.add_assoc, hcell]
   simp
end Go.Proofs.YtkjchoamdibolaaDoor
namespace Go.Proofs.YtkjchoamdibolaaDoor
open Go.RowKit
def CellsAt (w : World) (a : Option Addr) (vs : List Value) : Prop := ∀ i (h : i < vs.length), ∃ b off, a = some ⟨b, off, none⟩ ∧ w.cell? ⟨b, off + i, none⟩ = some vs[i]
theorem CellsAt.nil (w : World) (a : Option Addr) : CellsAt w a [] := fun i h => by simp at h
theorem CellsAt.below {w w' : World} {a : Option Addr} {vs : List Value} {B : Nat} (h : CellsAt w a vs) (hb : Below B w w') (hB : B = w.heap.size) : CellsAt w' a vs := by
 intro i hi
 obtain ⟨b, off, rfl, hc⟩ := h i hi
 have hl := cell_lt hc
 exact ⟨b, off, rfl, by rw [hb.cell (p := ⟨b, off + i, none⟩) (by simpa [hB] using hl)]; exact hc⟩
theorem CellsAt.new (w : World) (t : TypeId) (fr : Nat × Nat) (vs : List Value) : CellsAt (w.alloc (.cells vs.toArray t fr)) (some ⟨w.heap.size, 0, none⟩) vs := by
 intro i hi
 refine ⟨w.heap.size, 0, rfl, ?_⟩
 rw [Nat.zero_add, cell_new]
 simp
theorem CellsAt.get {w : World} {a : Option Addr} {vs : List Value} (h : CellsAt w a vs) (i : Nat) (v : Value) (hi : vs[i]? = some v) : ∃ b off, a = some ⟨b, off, none⟩ ∧ w.cell? ⟨b, off + i, none⟩ = some v := by
 obtain ⟨hlt, e⟩ := List.getElem?_eq_some_iff.1 hi
 obtain ⟨b, off, h1, h2⟩ := h i hlt
 exact ⟨b, off, h1, by rw [h2, e]⟩
theorem CellsAt.own {w : World} {base n : Nat} {e : TypeId} {a : Option Addr} {len cap : Nat} {vs : List Value} (h : w.ownsRow base e 1 (.slice a len cap) n vs) : CellsAt w a vs := by
 intro i hi
 obtain ⟨g, rfl, _, hc, _⟩ := own_cell h i vs[i] (by simp [hi])
 exact ⟨g, 0, rfl, by rw [Nat.zero_add]; exact hc⟩
end Go.Proofs.YtkjchoamdibolaaDoor
namespace Go.Proofs.YtkjchoamdibolaaDoor
open Go.RowKit Go.Shelf Go.Proofs
def lay167_ren : Go.Shelf.Ren := ⟨fun | 167 => 29 | 240 => 42 | 276 => 48 | n => n, fun | 0 => 0 | 4 => 4 | 5 => 5 | 9 => 9 | 20 => 20 | 37 => 51 | 70 => 50 | 72 => 53 | 75 => 55 | 164 => 79 | 80 => 59 | n => n, fun n => n⟩
theorem lay167 : Go.Proofs.Lays.n167 Tryd.prog lay167_ren := {
 mixed := by kernel_rfl
 f167 := Tryd.func29.trans (congrArg some (by kernel_rfl))
 f240 := Tryd.func42.trans (congrArg some (by kernel_rfl))
 f276 := Tryd.func48.trans (congrArg some (by kernel_rfl))
 t0 := Tryd.underlying0
 a0 := Tryd.isAgg0
 z0 := Tryd.sizeOf0
 v0 := Tryd.zeroValue0
 t4 := Tryd.underlying4
 a4 := Tryd.isAgg4
 z4 := Tryd.sizeOf4
 v4 := Tryd.zeroValue4
 t5 := Tryd.underlying5
 a5 := Tryd.isAgg5
 z5 := Tryd.sizeOf5
 v5 := Tryd.zeroValue5
 t9 := Tryd.underlying9
 a9 := Tryd.isAgg9
 z9 := Tryd.sizeOf9
 v9 := Tryd.zeroValue9
 t20 := Tryd.underlying20
 a20 := Tryd.isAgg20
 z20 := Tryd.sizeOf20
 v20 := Tryd.zeroValue20
 t37 := Tryd.underlying51
 a37 := Tryd.isAgg51
 z37 := Tryd.sizeOf51
 v37 := Tryd.zeroValue51
 t70 := Tryd.underlying50
 a70 := Tryd.isAgg50
 z70 := Tryd.sizeOf50
 v70 := Tryd.zeroValue50
 t72 := Tryd.underlying53
 a72 := Tryd.isAgg53
 z72 := Tryd.sizeOf53
 v72 := Tryd.zeroValue53
 t75 := Tryd.underlying55
 a75 := Tryd.isAgg55
 z75 := Tryd.sizeOf55
 v75 := Tryd.zeroValue55
 t164 := Tryd.underlying79
 a164 := Tryd.isAgg79
 z164 := Tryd.sizeOf79
 v164 := Tryd.zeroValue79
}
def lay166_ren : Go.Shelf.Ren := ⟨fun | 166 => 30 | 240 => 42 | 276 => 48 | n => n, fun | 0 => 0 | 3 => 3 | 4 => 4 | 9 => 9 | 20 => 20 | 37 => 51 | 70 => 50 | 72 => 53 | 75 => 55 | 164 => 79 | 5 => 5 | 80 => 59 | n => n, fun n => n⟩
theorem lay166 : Go.Proofs.Lays.n166 Tryd.prog lay166_ren := {
 mixed := by kernel_rfl
 f166 := Tryd.func30.trans (congrArg some (by kernel_rfl))
 f240 := Tryd.func42.trans (congrArg some (by kernel_rfl))
 f276 := Tryd.func48.trans (congrArg some (by kernel_rfl))
 t0 := Tryd.underlying0
 a0 := Tryd.isAgg0
 z0 := Tryd.sizeOf0
 v0 := Tryd.zeroValue0
 t3 := Tryd.underlying3
 a3 := Tryd.isAgg3
 z3 := Tryd.sizeOf3
 v3 := Tryd.zeroValue3
 t4 := Tryd.underlying4
 a4 := Tryd.isAgg4
 z4 := Tryd.sizeOf4
 v4 := Tryd.zeroValue4
 t9 := Tryd.underlying9
 a9 := Tryd.isAgg9
 z9 := Tryd.sizeOf9
 v9 := Tryd.zeroValue9
 t20 := Tryd.underlying20
 a20 := Tryd.isAgg20
 z20 := Tryd.sizeOf20
 v20 := Tryd.zeroValue20
 t37 := Tryd.underlying51
 a37 := Tryd.isAgg51
 z37 := Tryd.sizeOf51
 v37 := Tryd.zeroValue51
 t70 := Tryd.underlying50
 a70 := Tryd.isAgg50
 z70 := Tryd.sizeOf50
 v70 := Tryd.zeroValue50
 t72 := Tryd.underlying53
 a72 := Tryd.isAgg53
 z72 := Tryd.sizeOf53
 v72 := Tryd.zeroValue53
 t75 := Tryd.underlying55
 a75 := Tryd.isAgg55
 z75 := Tryd.sizeOf55
 v75 := Tryd.zeroValue55
 t164 := Tryd.underlying79
 a164 := Tryd.isAgg79
 z164 := Tryd.sizeOf79
 v164 := Tryd.zeroValue79
}
def lay169_ren : Go.Shelf.Ren := ⟨fun | 169 => 31 | n => n, fun | 0 => 0 | 3 => 3 | 9 => 9 | 37 => 51 | 70 => 50 | 72 => 53 | 127 => 70 | 5 => 5 | n => n, fun n => n⟩
theorem lay169 : Go.Proofs.Lays.n169 Tryd.prog lay169_ren := {
 mixed := by kernel_rfl
 f169 := Tryd.func31.trans (congrArg some (by kernel_rfl))
 t0 := Tryd.underlying0
 a0 := Tryd.isAgg0
 z0 := Tryd.sizeOf0
 v0 := Tryd.zeroValue0
 t3 := Tryd.underlying3
 a3 := Tryd.isAgg3
 z3 := Tryd.sizeOf3
 v3 := Tryd.zeroValue3
 t9 := Tryd.underlying9
 a9 := Tryd.isAgg9
 z9 := Tryd.sizeOf9
 v9 := Tryd.zeroValue9
 t37 := Tryd.underlying51
 a37 := Tryd.isAgg51
 z37 := Tryd.sizeOf51
 v37 := Tryd.zeroValue51
 t70 := Tryd.underlying50
 a70 := Tryd.isAgg50
 z70 := Tryd.sizeOf50
 v70 := Tryd.zeroValue50
 t72 := Tryd.underlying53
 a72 := Tryd.isAgg53
 z72 := Tryd.sizeOf53
 v72 := Tryd.zeroValue53
 t127 := Tryd.underlying70
 a127 := Tryd.isAgg70
 z127 := Tryd.sizeOf70
 v127 := Tryd.zeroValue70
}
def lay196_ren : Go.Shelf.Ren := ⟨fun | 196 => 41 | 259 => 47 | n => n, fun | 0 => 0 | 3 => 3 | 4 => 4 | 5 => 5 | 9 => 9 | 12 => 12 | 46 => 69 | 53 => 82 | 119 => 75 | 138 => 77 | 139 => 78 | n => n, fun | 3 => 0 | 4 => 1 | n => n⟩
theorem lay196 : Go.Proofs.Lays.n196 Tryd.prog lay196_ren := {
 mixed := by kernel_rfl
 f196 := Tryd.func41.trans (congrArg some (by kernel_rfl))
 f259 := Tryd.func47.trans (congrArg some (by kernel_rfl))
 t0 := Tryd.underlying0
 a0 := Tryd.isAgg0
 z0 := Tryd.sizeOf0
 v0 := Tryd.zeroValue0
 t3 := Tryd.underlying3
 a3 := Tryd.isAgg3
 z3 := Tryd.sizeOf3
 v3 := Tryd.zeroValue3
 t4 := Tryd.underlying4
 a4 := Tryd.isAgg4
 z4 := Tryd.sizeOf4
 v4 := Tryd.zeroValue4
 t5 := Tryd.underlying5
 a5 := Tryd.isAgg5
 z5 := Tryd.sizeOf5
 v5 := Tryd.zeroValue5
 t9 := Tryd.underlying9
 a9 := Tryd.isAgg9
 z9 := Tryd.sizeOf9
 v9 := Tryd.zeroValue9
 t12 := Tryd.underlying12
 a12 := Tryd.isAgg12
 z12 := Tryd.sizeOf12
 v12 := Tryd.zeroValue12
 t46 := Tryd.underlying69
 a46 := Tryd.isAgg69
 z46 := Tryd.sizeOf69
 v46 := Tryd.zeroValue69
 t53 := Tryd.underlying82
 a53 := Tryd.isAgg82
 z53 := Tryd.sizeOf82
 v53 := Tryd.zeroValue82
 t119 := Tryd.underlying75
 a119 := Tryd.isAgg75
 z119 := Tryd.sizeOf75
 t138 := Tryd.underlying77
 a138 := Tryd.isAgg77
 z138 := Tryd.sizeOf77
 v138 := Tryd.zeroValue77
 t139 := Tryd.underlying78
 a139 := Tryd.isAgg78
 z139 := Tryd.sizeOf78
 v139 := Tryd.zeroValue78
 g3 := by kernel_rfl
 g4 := by kernel_rfl
}
def lay145_ren : Go.Shelf.Ren := ⟨fun | 145 => 37 | 217 => 52 | 219 => 51 | 220 => 46 | 224 => 54 | 225 => 53 | 266 => 56 | 267 => 55 | 314 => 57 | n => n, fun | 3 => 3 | 4 => 4 | 5 => 5 | 9 => 9 | 46 => 69 | 51 => 85 | 59 => 64 | 146 => 86 | n => n, fun | 1 => 2 | n => n⟩
theorem lay145 : Go.Proofs.Lays.n145 Tryd.prog lay145_ren := {
 mixed := by kernel_rfl
 f145 := Tryd.func37.trans (congrArg some (by kernel_rfl))
 f217 := Tryd.func52.trans (congrArg some (by kernel_rfl))
 f219 := Tryd.func51.trans (congrArg some (by kernel_rfl))
 f220 := Tryd.func46.trans (congrArg some (by kernel_rfl))
 f224 := Tryd.func54.trans (congrArg some (by kernel_rfl))
 f225 := Tryd.func53.trans (congrArg some (by kernel_rfl))
 f266 := Tryd.func56.trans (congrArg some (by kernel_rfl))
 f267 := Tryd.func55.trans (congrArg some (by kernel_rfl))
 f314 := Tryd.func57.trans (congrArg some (by kernel_rfl))
 t3 := Tryd.underlying3
 a3 := Tryd.isAgg3
 z3 := Tryd.sizeOf3
 v3 := Tryd.zeroValue3
 t4 := Tryd.underlying4
 a4 := Tryd.isAgg4
 z4 := Tryd.sizeOf4
 v4 := Tryd.zeroValue4
 t5 := Tryd.underlying5
 a5 := Tryd.isAgg5
 z5 := Tryd.sizeOf5
 v5 := Tryd.zeroValue5
 t9 := Tryd.underlying9
 a9 := Tryd.isAgg9
 z9 := Tryd.sizeOf9
 v9 := Tryd.zeroValue9
 t46 := Tryd.underlying69
 a46 := Tryd.isAgg69
 z46 := Tryd.sizeOf69
 v46 := Tryd.zeroValue69
 t51 := Tryd.underlying85
 a51 := Tryd.isAgg85
 z51 := Tryd.sizeOf85
 v51 := Tryd.zeroValue85
 t59 := Tryd.underlying64
 a59 := Tryd.isAgg64
 z59 := Tryd.sizeOf64
 v59 := Tryd.zeroValue64
 t146 := Tryd.underlying86
 a146 := Tryd.isAgg86
 z146 := Tryd.sizeOf86
 v146 := Tryd.zeroValue86
 g1 := by kernel_rfl
}
def lay103_ren : Go.Shelf.Ren := ⟨fun | 103 => 36 | 206 => 50 | 210 => 45 | n => n, fun | 3 => 3 | 4 => 4 | 9 => 9 | 24 => 62 | n => n, fun n => n⟩
theorem lay103 : Go.Proofs.Lays.n103 Tryd.prog lay103_ren := {
 mixed := by kernel_rfl
 f103 := Tryd.func36.trans (congrArg some (by kernel_rfl))
 f206 := Tryd.func50.trans (congrArg some (by kernel_rfl))
 f210 := Tryd.func45.trans (congrArg some (by kernel_rfl))
 t3 := Tryd.underlying3
 a3 := Tryd.isAgg3
 z3 := Tryd.sizeOf3
 v3 := Tryd.zeroValue3
 t4 := Tryd.underlying4
 a4 := Tryd.isAgg4
 z4 := Tryd.sizeOf4
 v4 := Tryd.zeroValue4
 t9 := Tryd.underlying9
 a9 := Tryd.isAgg9
 z9 := Tryd.sizeOf9
 v9 := Tryd.zeroValue9
 t24 := Tryd.underlying62
 a24 := Tryd.isAgg62
 z24 := Tryd.sizeOf62
 v24 := Tryd.zeroValue62
}
def lay106_ren : Go.Shelf.Ren := ⟨fun | 106 => 35 | 213 => 44 | 265 => 49 | n => n, fun | 3 => 3 | 9 => 9 | n => n, fun n => n⟩
theorem lay106 : Go.Proofs.Lays.n106 Tryd.prog lay106_ren := {
 mixed := by kernel_rfl
 f106 := Tryd.func35.trans (congrArg some (by kernel_rfl))
 f213 := Tryd.func44.trans (congrArg some (by kernel_rfl))
 f265 := Tryd.func49.trans (congrArg some (by kernel_rfl))
 t3 := Tryd.underlying3
 a3 := Tryd.isAgg3
 z3 := Tryd.sizeOf3
 v3 := Tryd.zeroValue3
 t9 := Tryd.underlying9
 a9 := Tryd.isAgg9
 z9 := Tryd.sizeOf9
 v9 := Tryd.zeroValue9
}
theorem ext167 : Builder.Extra Tryd.prog lay167_ren := {
 sizeBuilder := by kernel_rfl
 liesBuilder := by kernel_rfl
 t5 := Tryd.underlying5
 a5 := Tryd.isAgg5
 z5 := Tryd.sizeOf5
 v5 := Tryd.zeroValue5
 infoByte := by kernel_rfl
 cellsByte := by kernel_rfl
 sizeByte := by kernel_rfl
 neB5 := by decide }
theorem ext166 : Builder.Extra Tryd.prog lay166_ren := {
 sizeBuilder := by kernel_rfl
 liesBuilder := by kernel_rfl
 t5 := Tryd.underlying5
 a5 := Tryd.isAgg5
 z5 := Tryd.sizeOf5
 v5 := Tryd.zeroValue5
 infoByte := by kernel_rfl
 cellsByte := by kernel_rfl
 sizeByte := by kernel_rfl
 neB5 := by decide }
theorem ext169 : Builder.Extra Tryd.prog lay169_ren := {
 sizeBuilder := by kernel_rfl
 liesBuilder := by kernel_rfl
 t5 := Tryd.underlying5
 a5 := Tryd.isAgg5
 z5 := Tryd.sizeOf5
 v5 := Tryd.zeroValue5
 infoByte := by kernel_rfl
 cellsByte := by kernel_rfl
 sizeByte := by kernel_rfl
 neB5 := by decide }
theorem kb_WriteByte (B b : Nat) (bs : List Value) (c : Int) (w : World) (h : Lib.IsBuilderF 53 5 B b bs w) (hlen : bs.length + 1 ≤ 140737488355328) (hBw : B ≤ w.heap.size) :
 Calls Tryd.prog 29 #[.pointer (some ⟨b, 0, none⟩), .int .u8 c] w fun e w' => e = .returned .nilIface ∧ (Lib.BuilderAtF 53 5 B b (.pointer (some ⟨b, 0, none⟩)) (bs ++ [.int .u8 c]) w' ∧ Below B w w' ∧ Lib.OthersKept 5 (some b) w w') :=
 Any.Builder_WriteByte_k lay167 ext167 B b bs c w h hlen hBw
theorem kb_WriteString (B b : Nat) (bs : List Value) (s : ByteArray) (w : World) (h : Lib.IsBuilderF 53 5 B b bs w) (hlen : bs.length + s.size ≤ 140737488355328) (hBw : B ≤ w.heap.size) :
 Calls Tryd.prog 30 #[.pointer (some ⟨b, 0, none⟩), .string s] w fun e w' => e = .returned (.tuple #[.int .i64 s.size, .nilIface]) ∧ (Lib.BuilderAtF 53 5 B b (.pointer (some ⟨b, 0, none⟩)) (bs ++ Lib.strCells s) w' ∧ Below B w w' ∧ Lib.OthersKept 5 (some b) w w') :=
 Any.Builder_WriteString_k lay166 ext166 B b bs s w h hlen hBw
theorem kb_String (B b : Nat) (l : List UInt8) (w : World) (h : Lib.IsBuilderF 53 5 B b (Lib.byteCells l) w) (hBw : B ≤ w.heap.size) :
 Calls Tryd.prog 31 #[.pointer (some ⟨b, 0, none⟩)] w fun e w' => e = .returned (.string ⟨l.toArray⟩) ∧ (Lib.IsBuilderF 53 5 B b (Lib.byteCells l) w' ∧ Below B w w' ∧ Lib.OthersKept 5 (some b) w w') :=
 Any.Builder_String_any_k lay169 ext169 B b l w h hBw
theorem ks_Cut (s sep : ByteArray) (m : Int) (w : World) (hs : s.size < 4294967281) (hm : w.cell? ⟨2, 0, none⟩ = some (.int .i64 m)) :
 Calls Tryd.prog 37 #[.string s, .string sep] w fun e w' => e = .returned (.tuple #[.string ⟨(Lib.cut s.data.toList sep.data.toList).1.toArray⟩, .string ⟨(Lib.cut s.data.toList sep.data.toList).2.1.toArray⟩, .bool (Lib.cut s.data.toList sep.data.toList).2.2]) ∧ ∃ n, w' = w.drewN n :=
 Any.strings_Cut lay145 s sep m w hs hm
theorem ks_CutPrefix (s p : ByteArray) (w : World) :
 Calls Tryd.prog 36 #[.string s, .string p] w fun e w' => e = .returned (.tuple #[.string ⟨(Lib.trimPrefix s.data.toList p.data.toList).toArray⟩, .bool (Lib.hasPrefix s.data.toList p.data.toList)]) ∧ w' = w :=
 Any.strings_CutPrefix lay103 s p w
theorem ks_Compare (a b : ByteArray) (w : World) :
 Calls Tryd.prog 35 #[.string a, .string b] w fun e w' => e = .returned (.int .i64 (Lib.compareBytes a.data.toList b.data.toList)) ∧ w' = w :=
 Any.strings_Compare lay106 a b w
def Glob (w : World) : Prop := Lib.Utf8Tabs 0 1 w ∧ ∃ m, w.cell? ⟨2, 0, none⟩ = some (.int .i64 m)
theorem ks_Valid (s : ByteArray) (w : World) (hs : s.size ≤ 9223372036854775807) (hT : Glob w) :
 Calls Tryd.prog 41 #[.string s] w fun e w' => e = .returned (.bool (Lib.validD s.data.toList)) ∧ Below w.heap.size w w' :=
 Any.utf8_ValidString lay196 s w hs hT.1
theorem Glob.below {w w' : World} (h : Glob w) (hb : Below w.heap.size w w') : Glob w' := by
 have hc : ∀ p v, w.cell? p = some v → w'.cell? p = some v := fun p v hv => (hb.cell (cell_lt hv)).trans hv
 obtain ⟨⟨h1, h2⟩, m, h3⟩ := h
 exact ⟨⟨fun c hc' => hc _ _ (h1 c hc'), fun i hi => ⟨hc _ _ (h2 i hi).1, hc _ _ (h2 i hi).2⟩⟩, m, hc _ _ h3⟩
end Go.Proofs.YtkjchoamdibolaaDoor
namespace Go.Proofs.YtkjchoamdibolaaDoor
namespace Ku
open Go.Lib
def goodB (b : UInt8) : Bool := decide (32 ≤ b.toNat) && decide (b.toNat ≠ 47)
theorem dec_step (s : ByteArray) (pos : Nat) (h : pos < s.size) :
 ((s.get! pos).toNat < 128 ∧ Utf8.decode s pos = ((s.get! pos).toNat, 1)) ∨
 (128 ≤ (s.get! pos).toNat ∧ 128 ≤ (Utf8.decode s pos).1 ∧ 1 ≤ (Utf8.decode s pos).2 ∧ pos + (Utf8.decode s pos).2 ≤ s.size ∧ ∀ q, pos ≤ q → q < pos + (Utf8.decode s pos).2 → 128 ≤ (s.get! q).toNat) := by
 by_cases ha : (s.get! pos).toNat < 128
 · left
   refine ⟨ha, ?_⟩
   simp only [Utf8.decode, Nat.add_zero]
   rw [if_pos ha]
 · right
   have h0 : 128 ≤ (s.get! pos).toNat := by omega
   refine ⟨h0, ?_⟩
   have key : ∀ n, n ≤ 4 → pos + n ≤ s.size → (∀ k, 1 ≤ k → k < n → (s.get! (pos + k)).toNat / 64 = 2) → ∀ q, pos ≤ q → q < pos + n → 128 ≤ (s.get! q).toNat := by
    intro n _ _ hc q h1 h2
    by_cases hq : q = pos
    · rw [hq]; exact h0
    · have := hc (q - pos) (by omega) (by omega)
      rw [show pos + (q - pos) = q by omega] at this
      omega
   simp only [Utf8.decode, Nat.add_zero]
   rw [if_neg ha]
   have one : pos + 1 ≤ s.size ∧ ∀ q, pos ≤ q → q < pos + 1 → 128 ≤ (s.get! q).toNat := ⟨h, fun q h1 h2 => by rw [show q = pos by omega]; exact h0⟩
   split
   · rename_i hc
     simp only [Bool.and_eq_true, beq_iff_eq, decide_eq_true_eq] at hc
     split
     · rename_i h80
       exact ⟨h80, by omega, by omega, key 2 (by omega) (by omega) fun k k1 k2 => by rw [show k = 1 by omega]; exact hc.2.2⟩
     · exact ⟨by decide, by decide, one.1, one.2⟩
   · split
     · rename_i hc
       simp only [Bool.and_eq_true, beq_iff_eq, decide_eq_true_eq] at hc
       split
       · rename_i h80
         simp only [Bool.and_eq_true, decide_eq_true_eq] at h80
         refine ⟨by show 128 ≤ _; have := h80.1; simp only [] at *; omega, by simp, by show pos + 3 ≤ _; omega, key 3 (by omega) (by omega) fun k k1 k2 => ?_⟩
         rcases (by omega : k = 1 ∨ k = 2) with rfl | rfl
         · exact hc.1.2.2
         · exact hc.2.2
       · exact ⟨by decide, by decide, one.1, one.2⟩
     · split
       · rename_i hc
         simp only [Bool.and_eq_true, beq_iff_eq, decide_eq_true_eq] at hc
         split
         · rename_i h80
           simp only [Bool.and_eq_true, decide_eq_true_eq] at h80
           refine ⟨by show 128 ≤ _; have := h80.1; simp only [] at *; omega, by simp, by show pos + 4 ≤ _; omega, key 4 (by omega) (by omega) fun k k1 k2 => ?_⟩
           rcases (by omega : k = 1 ∨ k = 2 ∨ k = 3) with rfl | rfl | rfl
           · exact hc.1.1.2.2
           · exact hc.1.2.2
           · exact hc.2.2
         · exact ⟨by decide, by decide, one.1, one.2⟩
       · exact ⟨by decide, by decide, one.1, one.2⟩
def allG (s : ByteArray) : Bool := s.data.toList.all goodB
theorem get_list (s : ByteArray) (i : Nat) (h : i < s.size) : s.get! i = s.data.toList[i]'(by simpa using h) := by
 simp [ByteArray.get!, getElem!_pos, h]
theorem allG_iff {s : ByteArray} : allG s = true ↔ ∀ i, i < s.size → goodB (s.get! i) = true := by
 unfold allG
 rw [List.all_eq_true]
 constructor
 · intro h i hi
   rw [get_list s i hi]
   exact h _ (List.getElem_mem _)
 · intro h b hb
   obtain ⟨i, hi, rfl⟩ := List.getElem_of_mem hb
   have := h i (by simpa using hi)
   rw [get_list s i (by simpa using hi)] at this
   exact this
theorem allG_not {s : ByteArray} {i : Nat} (hi : i < s.size) (h : goodB (s.get! i) = false) : allG s = false := by
 cases ha : allG s with
 | false => rfl
 | true => rw [allG_iff.1 ha i hi] at h; cases h
theorem good_high {b : UInt8} (h : 128 ≤ b.toNat) : goodB b = true := by
 unfold goodB
 rw [decide_eq_true (by omega), decide_eq_true (by omega)]
 rfl
def keyG (s : ByteArray) : Bool := decide (1 ≤ s.size) && (decide (s.size ≤ 64) && (validD s.data.toList && allG s))
end Ku
end Go.Proofs.YtkjchoamdibolaaDoor
namespace Go.Proofs.YtkjchoamdibolaaDoor
open Go.RowKit
theorem own_form {w : World} {base size n : Nat} {e : TypeId} {v : Value} {xs : List Value} (h : w.ownsRow base e size v n xs) (hn : 0 < n) : ∃ g cap, v = .slice (some ⟨g, 0, none⟩) n cap ∧ base ≤ g ∧ g < w.heap.size ∧ n ≤ cap ∧ cap ≤ maxLen := by
 rcases h.2 with ⟨_, h0⟩ | ⟨g, cap', cur, rfl, h1, h2, h3, h4, _⟩
 · omega
 · exact ⟨g, cap', rfl, h1, (h.lt g rfl).2, h3, h4⟩
theorem BytesAt.fresh (w : World) (t : TypeId) (fr : Nat × Nat) (l : List UInt8) (vs : List Value) (h : vs = l.map fun c => Value.int .u8 (c.toNat : Int)) :
 BytesAt (w.alloc (.cells vs.toArray t fr)) (some ⟨w.heap.size, 0, none⟩) l := by
 intro i hi
 refine ⟨w.heap.size, 0, rfl, ?_⟩
 rw [Nat.zero_add, cell_new, h]
 simp [hi]
theorem src_one {P : Program} {tx e' : TypeId} (hk : P.underlying tx = some (.slice e')) (w : World) (t : TypeId) (c : UInt8) (u : Int) (hu : u = (c.toNat : Int)) :
 Src P 1 tx (.slice (some ⟨w.heap.size, 0, none⟩) 1 1) 1 (bvs [c]) (w.alloc (.cells #[.int .u8 u] t)) := by
 subst hu
 exact (BytesAt.fresh w t (0, 0) [c] [_] rfl).src hk 1
def ElemT (P : Program) (t e : TypeId) (z : Value) (size bytes : Nat) : Prop :=
 P.underlying t = some (.slice e) ∧ ∃ i, P.info? e = some i ∧ i.zero = some z ∧ i.size = size ∧ i.bytes = bytes ∧ z.cells.size = size
theorem ElemT.mk {P : Program} {t e : TypeId} {z : Value} {size bytes : Nat} (ht : P.underlying t = some (.slice e)) (h : (P.info? e).map (fun i => (i.zero, i.size, i.bytes)) = some (some z, size, bytes)) (hz : z.cells.size = size) : ElemT P t e z size bytes := by
 obtain ⟨i, h1, h2, h3, h4⟩ := info_parts h
 exact ⟨ht, i, h1, h2, h3, h4, hz⟩
theorem below_of_grown {w w' : World} {base size n : Nat} {e : TypeId} {v : Value} {xs : List Value} (hown : w.ownsRow base e size v n xs) (hb : base ≤ w.heap.size) (hg : w.grownBy w' v.ownBlock) : Below base w w' :=
 (Below.refl _ _).grown hg hb fun k hk => (hown.lt k hk).1
theorem wpList_app {P : Program} {w : World} {ops : Array Oper} {rest : List Oper} {o : Oper} {a : Act} {Q : Exit → Act → World → Prop} (hgd : o.guard = none) (s x : Operand) (t tx : TypeId)
 (ho : o.op = .call { callee := .builtin .append, args := #[s, x], argTypes := #[t, tx] })
 (base : Nat) (e : TypeId) (z : Value) (size bytes : Nat) (ht : ElemT P t e z size bytes)
 (v : Value) (n : Nat) (xs : List Value) (hv : a.eval s = v) (hown : w.ownsRow base e size v n xs)
 (xv : Value) (m : Nat) (news : List Value) (hx : a.eval x = xv) (hs : Src P size tx xv m news w)
 (h63 : n + m ≤ 4611686018427387904) (hbytes : (n + m) * bytes ≤ 140737488355328) (hbase : base ≤ w.heap.size)
 (h : ∀ v' w', w'.ownsRow base e size v' (n + m) (xs ++ news) → w.grownBy w' v.ownBlock → Below base w w' → (v'.ownBlock = v.ownBlock ∨ v'.ownBlock = some w.heap.size) → wpList P ops Q rest (a.put o.dst v') w') : wpList P ops Q (o :: rest) a w := by
 obtain ⟨h1, i, h2, h3, h4, h5, h6⟩ := ht
 exact wpList_append_src w hgd s x t tx ho base e i z size bytes h1 h2 h3 h4 h5 h6 v n xs hv hown xv m news hx hs (by unfold maxLen; omega) hbytes hbase
  fun v' w' g1 g2 g3 => h v' w' g1 g2 (below_of_grown hown hbase g2) g3
theorem wpList_appb {P : Program} {w : World} {ops : Array Oper} {rest : List Oper} {o : Oper} {a : Act} {Q : Exit → Act → World → Prop} (hgd : o.guard = none) (s x : Operand) (t tx : TypeId)
 (ho : o.op = .call { callee := .builtin .append, args := #[s, x], argTypes := #[t, tx] })
 (base : Nat) (e : TypeId) (ht : ElemT P t e (.int .u8 0) 1 1)
 (v : Value) (l : List UInt8) (hv : a.eval s = v) (hown : w.ownsRow base e 1 v l.length (bvs l))
 (xv : Value) (m : List UInt8) (hx : a.eval x = xv) (hs : Src P 1 tx xv m.length (bvs m) w)
 (hlen : l.length + m.length ≤ 70368744177664) (hbase : base ≤ w.heap.size)
 (h : ∀ v' w', w'.ownsRow base e 1 v' (l ++ m).length (bvs (l ++ m)) → w.grownBy w' v.ownBlock → Below base w w' → (v'.ownBlock = v.ownBlock ∨ v'.ownBlock = some w.heap.size) → wpList P ops Q rest (a.put o.dst v') w') : wpList P ops Q (o :: rest) a w :=
 wpList_app hgd s x t tx ho base e (.int .u8 0) 1 1 ht v l.length (bvs l) hv hown xv m.length (bvs m) hx hs (by omega) (by omega) hbase
  fun v' w' g1 g2 g3 g4 => h v' w' (by rw [List.length_append, bvs_append]; exact g1) g2 g3 g4
theorem step_appb {P : Program} {w : World} {ops : Array Oper} {o : Oper} {a : Act} {K : Act → World → Prop} {Q : Exit → Act → World → Prop} {E : Prop} (hgd : o.guard = none) (s x : Operand) (t tx : TypeId)
 (ho : o.op = .call { callee := .builtin .append, args := #[s, x], argTypes := #[t, tx] })
 (base : Nat) (e : TypeId) (ht : ElemT P t e (.int .u8 0) 1 1)
 (v : Value) (l : List UInt8) (hv : a.eval s = v) (hown : w.ownsRow base e 1 v l.length (bvs l))
 (xv : Value) (m : List UInt8) (hx : a.eval x = xv) (hs : Src P 1 tx xv m.length (bvs m) w)
 (hlen : l.length + m.length ≤ 70368744177664) (hbase : base ≤ w.heap.size)
 (h : ∀ v' w', w'.ownsRow base e 1 v' (l ++ m).length (bvs (l ++ m)) → w.grownBy w' v.ownBlock → Below base w w' → (v'.ownBlock = v.ownBlock ∨ v'.ownBlock = some w.heap.size) → K (a.put o.dst v') w') :
 if Region.wanted o (yielded ops a.tmps) = true then Oper.wp P o a w K Q else E := by
 have hw : Region.wanted o (yielded ops a.tmps) = true := by simp [Region.wanted, hgd]
 rw [if_pos hw]
 obtain ⟨h1, i, h2, h3, h4, h5, h6⟩ := ht
 obtain ⟨v', w', hr, g2, g3, g4, _⟩ := run_append_own_src (P := P) w base t tx o.type e i (.int .u8 0) 1 1 h1 h2 h3 h4 h5 h6 v l.length (bvs l) hown xv m.length (bvs m) hs (by unfold maxLen; omega) (by omega) hbase
 unfold Oper.wp execOp
 simp only [ho, resolve, invoke, builtin, Sem.run_bind, Sem.run_pure, Result.andThen_ok, List.map_toArray, List.map_cons, List.map_nil, hv, hx, hr]
 exact h v' w' (by rw [List.length_append, bvs_append]; exact g2) g3 (below_of_grown hown hbase g3) g4
theorem wpList_mk0 {P : Program} {w : World} {ops : Array Oper} {rest : List Oper} {o : Oper} {a : Act} {Q : Exit → Act → World → Prop} (hg : o.guard = none) (l c : Operand) (t : TypeId) (hop : o.op = Op.makeSlice t l c)
 (e : TypeId) (z : Value) (size bytes : Nat) (ht : ElemT P t e z size bytes) (kl kc : IntKind) (C : Int) (n : Nat) (hl : a.eval l = .int kl 0) (hc : a.eval c = .int kc C) (hC : C = (n : Int)) (b2 : bytes * n ≤ 281474976710656) (b3 : n ≤ 4611686018427387904)
 (hK : ∀ w', w'.ownsRow w.heap.size e size (.slice (some ⟨w.heap.size, 0, none⟩) 0 n) 0 [] → Below w.heap.size w w' → wpList P ops Q rest (a.put o.dst (.slice (some ⟨w.heap.size, 0, none⟩) 0 n)) w') :
 wpList P ops Q (o :: rest) a w := by
 obtain ⟨h1, i, h2, h3, h4, h5, _⟩ := ht
 exact wpList_make_own w hg l c t hop w.heap.size e i z size h1 h2 h3 h4 kl kc C n hl hc hC (by rw [h5]; exact b2) (by unfold maxLen; omega) (Nat.le_refl _)
  fun w' g1 g2 => hK w' g1 ((Below.refl _ _).grown g2 (Nat.le_refl _) (fun k h => by cases h))
end Go.Proofs.YtkjchoamdibolaaDoor
namespace Go.Proofs.YtkjchoamdibolaaDoor
open Go.RowKit
section
variable {P : Program} {ops : Array Oper} {Q : Exit → Act → World → Prop} {md : Region.Mode} {S S' : World → Prop}
theorem wpAnyH_madeK {W w1 : World} {o : Obj} {B : Nat} (hS : Below B W w1) (hB : B ≤ w1.heap.size) {fuel : Nat} {listed : Array Bool} {a : Act}
 (h : ∀ w2, w2 = w1.alloc o → Below B W w2 → wpAnyH P md ops Q (fun w' => Below B W w') fuel listed a w2) : wpAnyH P md ops Q (fun w' => Below B W w') fuel listed a (w1.alloc o) :=
 h _ rfl (hS.alloc hB o)
end
end Go.Proofs.YtkjchoamdibolaaDoor
namespace Go.Proofs.YtkjchoamdibolaaDoor
open Go.RowKit
section
variable {P : Program} {md : Region.Mode} {ops : Array Oper} {Q : Exit → Act → World → Prop} {S : World → Prop} {T : List Nat}
def doneB (ops : Array Oper) (T : List Nat) (listed : Array Bool) : Bool := (List.range ops.size).all fun k => T.contains k || listed.getD k false
def anyT (P : Program) (md : Region.Mode) (ops : Array Oper) (Q : Exit → Act → World → Prop) (T : List Nat) (S : World → Prop) : Nat → Array Bool → Act → World → Prop
 | 0, listed, a, w => wpAny P md ops Q 0 listed a w
 | fuel + 1, listed, a, w => if doneB ops T listed = true then wpAny P md ops Q (fuel + 1) listed a w
  else (Region.ready md ops listed = [] → Q .normal a w) ∧ ∀ i ∈ Region.ready md ops listed, wpOp P ops Q i (fun a' w' => S w' ∧ anyT P md ops Q T S fuel (listed.setIfInBounds i true) a' w') a w
def AllReadyT (P : Program) (md : Region.Mode) (ops : Array Oper) (Q : Exit → Act → World → Prop) (T : List Nat) (S : World → Prop) (fuel : Nat) (listed : Array Bool) (a : Act) (w : World) (rs : List Nat) : Prop :=
 ∀ i ∈ rs, wpOp P ops Q i (fun a' w' => S w' ∧ anyT P md ops Q T S fuel (listed.setIfInBounds i true) a' w') a w
theorem AllReadyT.nil {fuel : Nat} {listed : Array Bool} {a : Act} {w : World} : AllReadyT P md ops Q T S fuel listed a w [] := fun _ h => by cases h
theorem AllReadyT.cons {fuel : Nat} {listed : Array Bool} {a : Act} {w : World} {i : Nat} {o : Oper} {rs : List Nat} (ho : ops[i]? = some o) (hw : Region.wanted o (yielded ops a.tmps) = true)
 (h : ∀ K' : Act → World → Prop, Shut (∀ a w, S w → (S w → anyT P md ops Q T S fuel (listed.setIfInBounds i true) a w) → K' a w) → Oper.wp P o a w K' Q)
 (hs : AllReadyT P md ops Q T S fuel listed a w rs) : AllReadyT P md ops Q T S fuel listed a w (i :: rs) := fun j hj => by
 rcases List.mem_cons.1 hj with rfl | hj
 · unfold wpOp
   simp only [ho]
   rw [if_pos hw]
   exact .inl (h _ (fun a w hS hW => ⟨hS, hW hS⟩))
 · exact hs j hj
end
end Go.Proofs.YtkjchoamdibolaaDoor
namespace Go.Proofs.YtkjchoamdibolaaDoor
open Go.RowKit Ku
set_option maxRecDepth 100000 in
theorem key_Key (s : ByteArray) (w : World) (hs : s.size ≤ 9223372036854775807) (hG : Glob w) :
 Calls Tryd.prog 26 #[.string s] w fun e w' => e = .returned (.bool (keyG s)) ∧ Below w.heap.size w w' := by
 have G := Lib.hid hG
 have HS := Lib.hid hs
 clear hG hs
 obtain ⟨res, hres⟩ : ∃ r, keyG s = r := ⟨_, rfl⟩
 have R := Lib.hid hres
 rw [hres]
 clear hres
 go_enter Tryd.func26, Tryd.ntmps26
 by_cases h1 : s.size < 1
 · have h1i : (s.size : Int) < 1 := by omega
   obtain rfl : false = res := by rw [← R.out]; unfold keyG; rw [decide_eq_false (by omega)]; rfl
   go_wp2_with fail
   go_ret
   exact ⟨rfl, Below.refl _ _⟩
 have h1i : ¬ (s.size : Int) < 1 := by omega
 by_cases h2 : 64 < s.size
 · have h2i : (64 : Int) < (s.size : Int) := by omega
   obtain rfl : false = res := by rw [← R.out]; unfold keyG; rw [decide_eq_false (p := s.size ≤ 64) (by omega)]; simp
   go_wp2_with fail
   go_ret
   exact ⟨rfl, Below.refl _ _⟩
 have h2i : ¬ (64 : Int) < (s.size : Int) := by omega
 go_wp2_with fail
 refine (ks_Valid s w HS.out G.out).mono ?_
 rintro e w1 ⟨rfl, hb⟩
 have HB := Lib.hid hb
 clear hb
 obtain ⟨va, hva⟩ : ∃ r, Lib.validD s.data.toList = r := ⟨_, rfl⟩
 rw [hva]
 have VA := Lib.hid hva
 clear hva
 cases va
 case false =>
  obtain rfl : false = res := by rw [← R.out]; unfold keyG; rw [VA.out]; simp
  go_wp2_with fail
  go_ret
  exact ⟨rfl, HB.out⟩
 have R2 : Hid (allG s = res) := Lib.hid (by rw [← R.out]; unfold keyG; rw [VA.out, decide_eq_true (by omega), decide_eq_true (by omega)]; rfl)
 clear R
 go_wp2_with fail
 go_loopw [] (fun w' => ∃ pos : Nat, pos ≤ s.size ∧ w' = w1.iter s pos ∧ Hid (∀ i, i < pos → goodB (s.get! i) = true)) (fun w' => s.size - w'.iterPos w1.heap.size)
 case atStart => exact ⟨0, Nat.zero_le _, rfl, Lib.hid (fun i hi => by omega)⟩
 case round =>
  obtain ⟨pos, hps, rfl, HA⟩ := hrel
  by_cases hp : pos < s.size
  · have hnx : ∀ ty, (Instr.next (.pointer (some ⟨w1.heap.size, 0, none⟩)) true ty).run Tryd.prog (w1.iter s pos) = _ := fun ty => run_next_any w1 s pos ty hp
    have D := Lib.hid (dec_step s pos hp)
    obtain ⟨c, n, hcn⟩ : ∃ c n, Utf8.decode s pos = (c, n) := ⟨_, _, rfl⟩
    rw [hcn] at D
    simp only [hcn] at hnx
    clear hcn
    have HP := Lib.hid hp
    rcases D.out with ⟨a1, a2⟩ | ⟨a1, a2, a3, a4, a5⟩
    · obtain ⟨rfl, rfl⟩ : c = (s.get! pos).toNat ∧ n = 1 := by cases a2; exact ⟨rfl, rfl⟩
      clear a2 D
      obtain ⟨c, hc⟩ : ∃ c, (s.get! pos).toNat = c := ⟨_, rfl⟩
      rw [hc] at a1
      simp only [hc] at hnx
      have HC := Lib.hid hc
      clear hc
      by_cases k1 : c < 32
      · have k1i : (c : Int) < 32 := by omega
        obtain rfl : false = res := by rw [← R2.out]; exact (allG_not HP.out (by unfold goodB; rw [HC.out, decide_eq_false (p := 32 ≤ c) (by omega)]; rfl)).symm
        go_wp2_with fail
        go_ret
        exact ⟨rfl, HB.out.trans ((below_new w1 _).mono HB.out.size)⟩
      · by_cases k2 : c = 47
        · subst k2
          obtain rfl : false = res := by rw [← R2.out]; exact (allG_not HP.out (by unfold goodB; rw [HC.out]; decide)).symm
          go_wp2_with fail
          go_ret
          exact ⟨rfl, HB.out.trans ((below_new w1 _).mono HB.out.size)⟩
        · have NX : Hid (∀ i, i < pos + 1 → goodB (s.get! i) = true) := Lib.hid (fun i hi => by
           by_cases h : i < pos
           · exact HA.out i h
           · rw [show i = pos by omega]; unfold goodB; rw [HC.out, decide_eq_true (by omega), decide_eq_true k2]; rfl)
          have hc1 : ¬ (c : Int) < 32 := by omega
          have hc2 : ((c : Int) == 47) = false := beq_eq_false_iff_ne.2 (by omega)
          have hc3 : ¬ (c : Int) = 47 := by omega
          go_wp2_with fail
          go_roundw
          case rel => exact ⟨pos + 1, by omega, rfl, NX⟩
          case measure => simp; omega
    · have NX : Hid (∀ i, i < pos + n → goodB (s.get! i) = true) := Lib.hid (fun i hi => by
       by_cases h : i < pos
       · exact HA.out i h
       · exact good_high (a5 i (by omega) hi))
      clear D a5
      have hc1 : ¬ (c : Int) < 32 := by omega
      have hc2 : ((c : Int) == 47) = false := beq_eq_false_iff_ne.2 (by omega)
      have hc3 : ¬ (c : Int) = 47 := by omega
      go_wp2_with fail
      go_roundw
      case rel => exact ⟨pos + n, by omega, rfl, NX⟩
      case measure => simp; omega
  · obtain rfl : pos = s.size := by omega
    have hnx : ∀ ty, (Instr.next (.pointer (some ⟨w1.heap.size, 0, none⟩)) true ty).run Tryd.prog (w1.iter s s.size) = _ := fun ty => run_next_end w1 s s.size ty hp
    obtain rfl : true = res := by rw [← R2.out]; exact (allG_iff.2 HA.out).symm
    go_wp2_with fail
    go_ret
    exact ⟨rfl, HB.out.trans ((below_new w1 _).mono HB.out.size)⟩
end Go.Proofs.YtkjchoamdibolaaDoor
namespace Go.Proofs.YtkjchoamdibolaaDoor
namespace Ku
open Go.Lib
theorem validGo_fuel : ∀ (n m : Nat) (l : List UInt8), l.length ≤ n → l.length ≤ m → validGoD n l = validGoD m l
 | 0, m, l, h, _ => by
  obtain rfl : l = [] := List.eq_nil_of_length_eq_zero (by omega)
  cases m <;> simp [validGoD]
 | n + 1, 0, l, _, h => by
  obtain rfl : l = [] := List.eq_nil_of_length_eq_zero (by omega)
  simp [validGoD]
 | n + 1, m + 1, l, h1, h2 => by
  unfold validGoD
  by_cases hl : l = []
  · rw [if_pos hl, if_pos hl]
  · rw [if_neg hl, if_neg hl]
    split
    · rfl
    · have hw := decodeL_width l
      have hp : 0 < l.length := List.length_pos_iff.2 hl
      exact validGo_fuel n m _ (by rw [List.length_drop]; omega) (by rw [List.length_drop]; omega)
theorem valid_step (s : ByteArray) (pos : Nat) (h : pos < s.size) :
 validD (s.data.toList.drop pos) = if Utf8.decode s pos = (65533, 1) then false else validD (s.data.toList.drop (pos + (Utf8.decode s pos).2)) := by
 have hlen : (s.data.toList.drop pos).length = s.size - pos := by simp
 obtain ⟨k, hk⟩ : ∃ k, s.size - pos = k + 1 := ⟨s.size - pos - 1, by omega⟩
 have hne : s.data.toList.drop pos ≠ [] := by intro e; rw [e] at hlen; simp at hlen; omega
 have hd := decodeL_drop s pos
 have hw := decodeL_width (s.data.toList.drop pos)
 unfold validD
 rw [hlen, hk]
 rw [validGoD, if_neg hne, hd]
 by_cases he : Utf8.decode s pos = (65533, 1)
 · rw [if_pos he, if_pos (by rw [he]; exact ⟨rfl, rfl⟩)]
 · rw [if_neg he, if_neg (fun ⟨h1, h2⟩ => he (Prod.ext h1 h2)), List.drop_drop]
   rw [hd] at hw
   exact validGo_fuel _ _ _ (by rw [List.length_drop]; simp; omega) (by simp)
theorem valid_all (s : ByteArray) : validD (s.data.toList.drop 0) = validD s.data.toList := by rw [List.drop_zero]
theorem valid_end (s : ByteArray) : validD (s.data.toList.drop s.size) = true := by
 rw [List.drop_of_length_le (by simp)]
 rfl
def accN (s : ByteArray) (pos c0 : Nat) : Nat → Nat
 | 0 => c0
 | k + 1 => 64 * accN s pos c0 k + (s.get! (pos + (k + 1))).toNat - 128
def Cls (b n c0 least : Nat) : Prop := (192 ≤ b ∧ b < 224 ∧ n = 2 ∧ c0 = b - 192 ∧ least = 128) ∨ (224 ≤ b ∧ b < 240 ∧ n = 3 ∧ c0 = b - 224 ∧ least = 2048) ∨ (240 ≤ b ∧ b < 248 ∧ n = 4 ∧ c0 = b - 240 ∧ least = 65536)
def Cont (s : ByteArray) (pos j : Nat) : Prop := 128 ≤ (s.get! (pos + j)).toNat ∧ (s.get! (pos + j)).toNat < 192
structure Dec (s : ByteArray) (pos n c0 least : Nat) : Prop where
 len : pos + n ≤ s.size
 cont : ∀ j, 1 ≤ j → j < n → Cont s pos j
 lo : least ≤ accN s pos c0 (n - 1)
 hi : accN s pos c0 (n - 1) ≤ 1114111
 su : ¬ (55296 ≤ accN s pos c0 (n - 1) ∧ accN s pos c0 (n - 1) ≤ 57343)
theorem u8_lt (s : ByteArray) (i : Nat) : (s.get! i).toNat < 256 := (s.get! i).toNat_lt
theorem dn2 {r b0 b1 b2 b3 : Nat} (h1 : 192 ≤ b0) (h2 : b0 < 224) (u1 : b1 < 256) :
 (2 ≤ r ∧ (128 ≤ b1 ∧ b1 < 192) ∧ 128 ≤ 64 * (b0 - 192) + b1 - 128 → decodeN r b0 b1 b2 b3 = (64 * (b0 - 192) + b1 - 128, 2)) ∧
 (¬ (2 ≤ r ∧ (128 ≤ b1 ∧ b1 < 192) ∧ 128 ≤ 64 * (b0 - 192) + b1 - 128) → decodeN r b0 b1 b2 b3 = (65533, 1)) := by
 constructor
 · rintro ⟨d1, d2, d3⟩
   unfold decodeN
   rw [if_neg (by omega), if_pos (by omega), if_pos (by omega)]
   exact Prod.ext (by show _ = _; omega) rfl
 · intro hn
   unfold decodeN
   rw [if_neg (by omega)]
   by_cases k : b0 / 32 = 6 ∧ (1 < r ∧ b1 / 64 = 2)
   · rw [if_pos k, if_neg (by omega)]
   · rw [if_neg k, if_neg (by omega), if_neg (by omega)]
theorem dn3 {r b0 b1 b2 b3 : Nat} (h1 : 224 ≤ b0) (h2 : b0 < 240) (u1 : b1 < 256) (u2 : b2 < 256) {c : Nat} (hc : c = 64 * (64 * (b0 - 224) + b1 - 128) + b2 - 128) :
 (3 ≤ r ∧ (128 ≤ b1 ∧ b1 < 192) ∧ (128 ≤ b2 ∧ b2 < 192) ∧ 2048 ≤ c ∧ ¬ (55296 ≤ c ∧ c ≤ 57343) → decodeN r b0 b1 b2 b3 = (c, 3)) ∧
 (¬ (3 ≤ r ∧ (128 ≤ b1 ∧ b1 < 192) ∧ (128 ≤ b2 ∧ b2 < 192) ∧ 2048 ≤ c ∧ ¬ (55296 ≤ c ∧ c ≤ 57343)) → decodeN r b0 b1 b2 b3 = (65533, 1)) := by
 constructor
 · rintro ⟨d1, d2, d3, d4, d5⟩
   have e : b0 % 16 * 4096 + b1 % 64 * 64 + b2 % 64 = c := by omega
   unfold decodeN
   rw [if_neg (by omega), if_neg (by omega), if_pos (by omega), e, if_pos (by omega)]
 · intro hn
   unfold decodeN
   rw [if_neg (by omega), if_neg (by omega)]
   by_cases k : b0 / 16 = 14 ∧ (1 < r ∧ b1 / 64 = 2) ∧ (2 < r ∧ b2 / 64 = 2)
   · have e : b0 % 16 * 4096 + b1 % 64 * 64 + b2 % 64 = c := by omega
     rw [if_pos k, e, if_neg (by omega)]
   · rw [if_neg k, if_neg (by omega)]
theorem dn4 {r b0 b1 b2 b3 : Nat} (h1 : 240 ≤ b0) (h2 : b0 < 248) (u1 : b1 < 256) (u2 : b2 < 256) (u3 : b3 < 256) {c : Nat} (hc : c = 64 * (64 * (64 * (b0 - 240) + b1 - 128) + b2 - 128) + b3 - 128) :
 (4 ≤ r ∧ (128 ≤ b1 ∧ b1 < 192) ∧ (128 ≤ b2 ∧ b2 < 192) ∧ (128 ≤ b3 ∧ b3 < 192) ∧ 65536 ≤ c ∧ c ≤ 1114111 → decodeN r b0 b1 b2 b3 = (c, 4)) ∧
 (¬ (4 ≤ r ∧ (128 ≤ b1 ∧ b1 < 192) ∧ (128 ≤ b2 ∧ b2 < 192) ∧ (128 ≤ b3 ∧ b3 < 192) ∧ 65536 ≤ c ∧ c ≤ 1114111) → decodeN r b0 b1 b2 b3 = (65533, 1)) := by
 constructor
 · rintro ⟨d1, d2, d3, d4, d5, d6⟩
   have e : b0 % 8 * 262144 + b1 % 64 * 4096 + b2 % 64 * 64 + b3 % 64 = c := by omega
   unfold decodeN
   rw [if_neg (by omega), if_neg (by omega), if_neg (by omega), if_pos (by omega), e, if_pos (by omega)]
 · intro hn
   unfold decodeN
   rw [if_neg (by omega), if_neg (by omega), if_neg (by omega)]
   by_cases k : b0 / 8 = 30 ∧ (1 < r ∧ b1 / 64 = 2) ∧ (2 < r ∧ b2 / 64 = 2) ∧ (3 < r ∧ b3 / 64 = 2)
   · have e : b0 % 8 * 262144 + b1 % 64 * 4096 + b2 % 64 * 64 + b3 % 64 = c := by omega
     rw [if_pos k, e, if_neg (by omega)]
   · rw [if_neg k]
set_option maxRecDepth 100000 in
theorem dec_multi (s : ByteArray) (pos n c0 least : Nat) (hc : Cls (s.get! pos).toNat n c0 least) :
 (Dec s pos n c0 least → Utf8.decode s pos = (accN s pos c0 (n - 1), n)) ∧ (¬ Dec s pos n c0 least → Utf8.decode s pos = (65533, 1)) := by
 have u1 := u8_lt s (pos + 1); have u2 := u8_lt s (pos + 2); have u3 := u8_lt s (pos + 3)
 rw [decode_at]
 rcases hc with ⟨h1, h2, rfl, rfl, rfl⟩ | ⟨h1, h2, rfl, rfl, rfl⟩ | ⟨h1, h2, rfl, rfl, rfl⟩
 · have d := dn2 (r := s.size - pos) (b2 := (s.get! (pos + 2)).toNat) (b3 := (s.get! (pos + 3)).toNat) h1 h2 u1
   refine ⟨fun ⟨a1, a2, a3, _, _⟩ => d.1 ⟨by omega, a2 1 (by omega) (by omega), a3⟩, fun hn => d.2 fun ⟨a1, a2, a3⟩ => hn ⟨by omega, fun j j1 j2 => ?_, a3, ?_, ?_⟩⟩
   · obtain rfl : j = 1 := by omega
     exact a2
   · show 64 * ((s.get! pos).toNat - 192) + (s.get! (pos + 1)).toNat - 128 ≤ 1114111
     omega
   · show ¬ (55296 ≤ 64 * ((s.get! pos).toNat - 192) + (s.get! (pos + 1)).toNat - 128 ∧ _)
     omega
 · have d := dn3 (r := s.size - pos) (b3 := (s.get! (pos + 3)).toNat) h1 h2 u1 u2 rfl
   refine ⟨fun ⟨a1, a2, a3, _, a5⟩ => d.1 ⟨by omega, a2 1 (by omega) (by omega), a2 2 (by omega) (by omega), a3, a5⟩, fun hn => d.2 fun ⟨a1, a2, a3, a4, a5⟩ => hn ⟨by omega, fun j j1 j2 => ?_, a4, ?_, a5⟩⟩
   · rcases (by omega : j = 1 ∨ j = 2) with rfl | rfl
     · exact a2
     · exact a3
   · show 64 * (64 * ((s.get! pos).toNat - 224) + (s.get! (pos + 1)).toNat - 128) + (s.get! (pos + 2)).toNat - 128 ≤ 1114111
     omega
 · have d := dn4 (r := s.size - pos) h1 h2 u1 u2 u3 rfl
   refine ⟨fun ⟨a1, a2, a3, a4, _⟩ => d.1 ⟨by omega, a2 1 (by omega) (by omega), a2 2 (by omega) (by omega), a2 3 (by omega) (by omega), a3, a4⟩, fun hn => d.2 fun ⟨a1, a2, a3, a4, a5, a6⟩ => hn ⟨by omega, fun j j1 j2 => ?_, a5, a6, ?_⟩⟩
   · rcases (by omega : j = 1 ∨ j = 2 ∨ j = 3) with rfl | rfl | rfl
     · exact a2
     · exact a3
     · exact a4
   · show ¬ (_ ∧ 64 * (64 * (64 * ((s.get! pos).toNat - 240) + (s.get! (pos + 1)).toNat - 128) + (s.get! (pos + 2)).toNat - 128) + (s.get! (pos + 3)).toNat - 128 ≤ 57343)
     omega
theorem dec_bad (s : ByteArray) (pos : Nat) (h : 128 ≤ (s.get! pos).toNat) (h2 : (s.get! pos).toNat < 192 ∨ 248 ≤ (s.get! pos).toNat) : Utf8.decode s pos = (65533, 1) := by
 have := u8_lt s pos
 rw [decode_at]
 unfold decodeN
 rw [if_neg (by omega), if_neg (by omega), if_neg (by omega), if_neg (by omega)]
end Ku
end Go.Proofs.YtkjchoamdibolaaDoor
namespace Go.Proofs.YtkjchoamdibolaaDoor
open Go.RowKit
theorem CellsAt.take {w : World} {a : Option Addr} {vs : List Value} (h : CellsAt w a vs) (k : Nat) : CellsAt w a (vs.take k) := by
 intro i hi
 obtain ⟨b, off, e, c⟩ := h i (by simp at hi; omega)
 exact ⟨b, off, e, by rw [c]; simp⟩
theorem CellsAt.drop {w : World} {a : Option Addr} {vs : List Value} (h : CellsAt w a vs) (k : Nat) : CellsAt w (Option.map (fun x => x.add k) a) (vs.drop k) := by
 intro i hi
 obtain ⟨b, off, rfl, c⟩ := h (k + i) (by simp at hi; omega)
 exact ⟨b, off + k, by simp [Addr_add], by rw [show off + k + i = off + (k + i) by omega, c]; simp⟩
theorem CellsAt.src {P : Program} {w : World} {a : Option Addr} {vs : List Value} {size n : Nat} (h : CellsAt w a vs) (hlen : vs.length = n * size) (hone : ∀ u ∈ vs, u.oneCell' = true) {tx e' : TypeId} (hk : P.underlying tx = some (.slice e')) (cap : Nat) (hsz : size = 1 ∨ size = 2) : Src P size tx (.slice a n cap) n vs w := by
 cases a with
 | none =>
  have : vs = [] := by
   cases vs with
   | nil => rfl
   | cons c r => obtain ⟨b, off, hh, _⟩ := h 0 (by simp); cases hh
  subst this
  have hn : n = 0 := by rcases hsz with rfl | rfl <;> (simp only [List.length_nil] at hlen; omega)
  subst hn
  exact Src.ofNil w hk cap
 | some a =>
  refine Src.ofSlice w hk a _ cap vs hlen (fun j u hu => ?_) hone
  obtain ⟨hj, he⟩ := List.getElem?_eq_some_iff.1 hu
  obtain ⟨b, off, hh, hc⟩ := h j hj
  cases hh
  rw [Addr_add, hc, he]
theorem CellsAt.one {P : Program} (w : World) (t : TypeId) (v : Value) (hv : v.oneCell' = true) {tx e' : TypeId} (hk : P.underlying tx = some (.slice e')) : Src P 1 tx (.slice (some ⟨w.heap.size, 0, none⟩) 1 1) 1 [v] (w.alloc (.cells #[v] t)) :=
 (CellsAt.new w t (0, 0) [v]).src (n := 1) rfl (by simp [hv]) hk 1 (Or.inl rfl)
end Go.Proofs.YtkjchoamdibolaaDoor
namespace Go.Proofs.YtkjchoamdibolaaDoor
open Go.RowKit
def Chain (ws : List World) (w : World) : Prop := ∀ W ∈ ws, Below W.heap.size W w
theorem Chain.one (w : World) : Chain [w] w := fun W hW => by
 obtain rfl := List.mem_singleton.1 hW
 exact Below.refl _ _
theorem Chain.next {ws : List World} {w w' : World} (h : Chain ws w) (hb : Below w.heap.size w w') (_hw : True) : Chain ws w' := fun W hW =>
 (h W hW).trans (hb.mono (h W hW).size)
theorem Chain.push {ws : List World} {w w' : World} (h : Chain ws w) (hb : Below w.heap.size w w') : Chain (w' :: ws) w' := fun W hW => by
 rcases List.mem_cons.1 hW with rfl | hW
 · exact Below.refl _ _
 · exact (h W hW).trans (hb.mono (h W hW).size)
theorem Chain.only {ws : List World} {w w' : World} {g : Nat} (h : Chain ws w) (hg : w.grownBy w' (some g)) (hl : ∀ W ∈ ws, W.heap.size ≤ g) (_hlt : g < w.heap.size) : Chain ws w' := fun W hW =>
 (h W hW).trans ⟨hg.os, hg.tape, hg.output, hg.size, fun k hk => hg.block k (by have := (h W hW).size; omega) (fun e => by cases e; have := hl W hW; omega)⟩
theorem Chain.drop {W : World} {ws : List World} {w : World} (h : Chain (W :: ws) w) : Chain ws w := fun V hV => h V (List.mem_cons_of_mem _ hV)
theorem Chain.to {ws : List World} {w : World} (h : Chain ws w) (W : World) (hW : W ∈ ws) : Below W.heap.size W w := h W hW
theorem boxStays {W w' : World} {g : Nat} {o : Obj} (h : W.heap[g]? = some o) (hB : Below W.heap.size W w') : w'.heap[g]? = some o :=
 (hB.block g (Array.getElem?_eq_some_iff.1 h).1).trans h
theorem BytesAt.get {w : World} {l : List UInt8} {a : Option Addr} {i : Nat} (h : BytesAt w a l) (hi : i < l.length) : ∃ ad, a = some ad ∧ w.cell? (ad.add i) = some (.int .u8 (l[i].toNat : Int)) := by
 obtain ⟨b, off, rfl, hc⟩ := h i hi
 exact ⟨_, rfl, by rw [Addr.add_lit]; exact hc⟩
theorem BytesAt.take {w : World} {a : Option Addr} {l : List UInt8} (h : BytesAt w a l) (k : Nat) : BytesAt w a (l.take k) := by
 intro i hi
 have hi' : i < l.length := by simp at hi; omega
 obtain ⟨b, off, e, hc⟩ := h i hi'
 exact ⟨b, off, e, by simpa using hc⟩
end Go.Proofs.YtkjchoamdibolaaDoor
namespace Go.Proofs.YtkjchoamdibolaaDoor
open Go.RowKit
theorem CellsAt.srcN {P : Program} {w : World} {a : Option Addr} {vs : List Value} {size n : Nat} (h : CellsAt w a vs) (hlen : vs.length = n * size) (hone : ∀ u ∈ vs, u.oneCell' = true) {tx e' : TypeId} (hk : P.underlying tx = some (.slice e')) (cap : Nat) (hsz : 0 < size) : Src P size tx (.slice a n cap) n vs w := by
 cases a with
 | none =>
  have : vs = [] := by
   cases vs with
   | nil => rfl
   | cons c r => obtain ⟨b, off, hh, _⟩ := h 0 (by simp); cases hh
  subst this
  have hn : n = 0 := by
   rw [List.length_nil] at hlen
   rcases Nat.eq_zero_or_pos n with h0 | h0
   · exact h0
   · have := Nat.mul_pos h0 hsz; omega
  subst hn
  exact Src.ofNil w hk cap
 | some a =>
  refine Src.ofSlice w hk a _ cap vs hlen (fun j u hu => ?_) hone
  obtain ⟨hj, he⟩ := List.getElem?_eq_some_iff.1 hu
  obtain ⟨b, off, hh, hc⟩ := h j hj
  cases hh
  rw [Addr_add, hc, he]
theorem CellsAt.ownN {w : World} {base n size : Nat} {e : TypeId} {a : Option Addr} {len cap : Nat} {vs : List Value} (h : w.ownsRow base e size (.slice a len cap) n vs) : CellsAt w a vs := by
 intro i hi
 rcases h.2 with ⟨hv, hn⟩ | ⟨g, cap', cur, hv, hb, hg, hnc, _, hcs, ht⟩
 · have := h.1
   rw [hn] at this
   omega
 · cases hv
   refine ⟨g, 0, rfl, ?_⟩
   rw [Nat.zero_add]
   have h1 := cell_of_row w g i cur e (0, 0) hg
   rw [h1]
   have h2 : cur.toList.take vs.length = vs := by have := h.1; first | exact ht | (rw [this]; exact ht)
   have h3 : (cur.toList.take vs.length)[i]? = some vs[i] := by rw [h2]; simp [hi]
   rw [List.getElem?_take_of_lt hi] at h3
   simpa using h3
end Go.Proofs.YtkjchoamdibolaaDoor
