/- Words, contracts and walks that the proof stands on (Mem Cells KsA Tr StP ElP SvP Mem2 Over KyW Chn KyX). -/
import Derived.BigQuiet
import Derived.Deep.AppendSrc
import Derived.Deep.Draws
import Derived.Deep.QuietTactic
import Derived.Deep.RegionHeld
import Derived.Deep.RegionHeld3
import Derived.Deep.Upon
import Derived.Laws.AppendOwn
import Derived.Lib.ConvBytes
import Derived.Lib.Hide
import Derived.Maps.AppendAt
import Derived.Outline
import Derived.OwnWalk
import Derived.RegionTactic
import Derived.Shelf.Small.Strs
import Derived.Shelf.Small.Wraps
import Derived.Shelf.Strings.BuilderK
import Derived.Shelf.Strings.Cut
import Derived.Shelf.Unicode.ValidAny
import Derived.Sort.Walk0
import Derived.Test.YtjlliohjeiclaaaGreatDoorRows
import Derived.WalkKit
import Derived.WalkLawsBesides
namespace Go.Proofs.YtjlliohjeiclaaaGreatDoor
open Go.RowKit
def BytesAt (w : World) (a : Option Addr) (l : List UInt8) : Prop :=
 ∀ i (h : i < l.length), ∃ b off, a = some ⟨b, off, none⟩ ∧ w.cell? ⟨b, off + i, none⟩ = some (.int .u8 (l[i].toNat : Int))
theorem BytesAt.nil (w : World) (a : Option Addr) : BytesAt w a [] := fun i h => by simp at h
theorem cell_lt {w : World} {a : Addr} {v : Value} (h : w.cell? a = some v) : a.block < w.heap.size := block_lt_of_cell h
theorem BytesAt.below {w w' : World} {a : Option Addr} {l : List UInt8} {B : Nat} (h : BytesAt w a l) (hb : Below B w w') (hB : B = w.heap.size) : BytesAt w' a l := by
 intro i hi
 obtain ⟨b, off, rfl, hc⟩ := h i hi
 have hl := cell_lt hc
 exact ⟨b, off, rfl, by rw [hb.cell (p := ⟨b, off + i, none⟩) (by simpa [hB] using hl)]; exact hc⟩
def ListsAt (w : World) (a : Option Addr) (ll : List (List UInt8)) : Prop :=
 ∀ i (h : i < ll.length), ∃ b off a' cap, a = some ⟨b, off, none⟩ ∧ w.cell? ⟨b, off + i, none⟩ = some (.slice a' ll[i].length cap) ∧ BytesAt w a' ll[i] ∧ ll[i].length ≤ 9223372036854775807
theorem ListsAt.below {w w' : World} {a : Option Addr} {ll : List (List UInt8)} {B : Nat} (h : ListsAt w a ll) (hb : Below B w w') (hB : B = w.heap.size) : ListsAt w' a ll := by
 intro i hi
 obtain ⟨b, off, a', cap, rfl, hc, hl, hm⟩ := h i hi
 have hlt := cell_lt hc
 exact ⟨b, off, a', cap, rfl, by rw [hb.cell (p := ⟨b, off + i, none⟩) (by simpa [hB] using hlt)]; exact hc, hl.below hb hB, hm⟩
theorem below_setRow {B : Nat} {a w : World} (h : Below B a w) {g : Nat} (hg : B ≤ g) (cs : Array Value) : Below B a (w.setRow g cs) :=
 h.trans ⟨rfl, rfl, rfl, by simp, fun k hk => setRow_other _ _ _ _ (by omega)⟩
theorem below_new (w : World) (o : Obj) : Below w.heap.size w (w.alloc o) := (Below.refl _ _).alloc (Nat.le_refl _) _
theorem cell_new (w : World) (cs : Array Value) (t : TypeId) (fr : Nat × Nat) (i : Nat) : (w.alloc (.cells cs t fr)).cell? ⟨w.heap.size, i, none⟩ = cs[i]? := cell_of_row _ _ _ _ _ _ (heap_alloc_new w _)
theorem below_drews {B : Nat} {a w : World} (h : Below B a w) (n : Nat) : Below B a (w.drewN n) := h.trans ⟨rfl, rfl, rfl, Nat.le_refl _, fun _ _ => rfl⟩
theorem ListsAt.new (w : World) (t : TypeId) (fr : Nat × Nat) (vs : List Value) (ll : List (List UInt8))
 (h : ∀ i (h : i < ll.length), ∃ a' cap, vs[i]? = some (.slice a' ll[i].length cap) ∧ BytesAt w a' ll[i] ∧ ll[i].length ≤ 9223372036854775807) :
 ListsAt (w.alloc (.cells vs.toArray t fr)) (some ⟨w.heap.size, 0, none⟩) ll := by
 intro i hi
 obtain ⟨a', cap, hv, hl, hm⟩ := h i hi
 refine ⟨w.heap.size, 0, a', cap, rfl, ?_, hl.below (below_new w _) rfl, hm⟩
 rw [Nat.zero_add, cell_new]
 simpa using hv
theorem heap_setCells {g : Nat} {e : TypeId} {fr : Nat × Nat} : ∀ (vs : List Value) (o : Nat) (w : World) (cur : Array Value), w.heap[g]? = some (.cells cur e fr) → o + vs.length ≤ cur.size →
 ∃ cur', (w.setCells g o vs).heap[g]? = some (.cells cur' e fr) ∧ cur'.size = cur.size ∧ cur'.toList.take (o + vs.length) = cur.toList.take o ++ vs
 | [], o, w, cur, h, _ => ⟨cur, h, rfl, by simp⟩
 | v :: r, o, w, cur, h, hl => by
  have hl' : o + 1 + r.length ≤ cur.size := by simp at hl; omega
  have h1 : (w.setCell ⟨g, o, none⟩ v).heap[g]? = some (.cells (cur.setIfInBounds o v) e fr) := by
   rw [setCell_eq_setRow w g o cur e fr v h]
   exact setRow_heap w g cur _ e fr h
  obtain ⟨cur', h2, h3, h4⟩ := heap_setCells r (o + 1) _ _ h1 (by simpa using hl')
  refine ⟨cur', h2, by simpa using h3, ?_⟩
  rw [show o + (v :: r).length = o + 1 + r.length by simp; omega, h4]
  rw [Array.toList_setIfInBounds, List.take_succ_eq_append_getElem (by simp; omega)]
  simp [List.take_set]
  exact List.set_eq_of_length_le (List.length_take_le _ _)
theorem setCells_grown {w : World} {g : Nat} (o : Nat) (vs : List Value) : w.grownBy (w.setCells g o vs) (some g) :=
 ⟨World.os_setCells w g o vs, by
  induction vs generalizing o w with
  | nil => rfl
  | cons v r ih => exact (ih (w := w.setCell ⟨g, o, none⟩ v) (o + 1)).trans rfl, World.output_setCells w g o vs, by
  induction vs generalizing o w with
  | nil => exact Nat.le_refl _
  | cons v r ih => exact Nat.le_trans (by simp [World.setCell]) (ih (w := w.setCell ⟨g, o, none⟩ v) (o + 1)),
  fun k hk hne => World.heap_setCells_other w g o vs hk (fun e => hne (by rw [e]))⟩
section
variable {P : Program} (w : World)
theorem run_append_own_src (base : Nat) (t tx ty e : TypeId) (i : TypeInfo) (z : Value) (size bytes : Nat) (ht : P.underlying t = some (.slice e)) (hi : P.info? e = some i) (hz : i.zero = some z)
 (hsize : i.size = size) (hby : i.bytes = bytes) (hzs : z.cells.size = size)
 (v : Value) (n : Nat) (xs : List Value) (hown : w.ownsRow base e size v n xs)
 (x : Value) (m : Nat) (news : List Value) (hs : Src P size tx x m news w)
 (h63 : n + m ≤ maxLen) (hbytes : (n + m) * bytes ≤ 140737488355328) (hbase : base ≤ w.heap.size) :
 ∃ v' w', (Builtin.append_ #[t, tx] ty #[v, x]).run P w = .ok v' w' ∧ w'.ownsRow base e size v' (n + m) (xs ++ news) ∧ w.grownBy w' v.ownBlock ∧
  (v'.ownBlock = v.ownBlock ∨ v'.ownBlock = some w.heap.size) ∧ (w.heap.size < w'.heap.size ∨ v'.ownBlock = v.ownBlock) := by
 subst hsize
 subst hby
 have hsmall : n + m ≤ 9223372036854775807 := by simp only [maxLen] at h63; omega
 have hlen : (xs ++ news).length = (n + m) * i.size := by rw [List.length_append, hown.1, hs.newsLen, Nat.add_mul]
 have grown : ∀ (old : Nat), old < n + m → ∀ (row : Option Nat),
  (w.drew.alloc (.cells ((xs ++ news).toArray ++ Builtin.zeroCells z.cells (grownCap w (n + m) old e - (n + m))) e)).ownsRow base e i.size
   (.slice (some ⟨w.heap.size, 0, none⟩) (n + m) (grownCap w (n + m) old e)) (n + m) (xs ++ news) ∧
  w.grownBy (w.drew.alloc (.cells ((xs ++ news).toArray ++ Builtin.zeroCells z.cells (grownCap w (n + m) old e - (n + m))) e)) row := by
  intro old ho row
  have hge := grownCap_ge w (n + m) old e
  have hcm : grownCap w (n + m) old e ≤ maxLen := grownCap_le_maxLen w (n + m) old e h63
  refine ⟨⟨hlen, .inr ⟨w.heap.size, _, _, rfl, hbase, heap_alloc_new w.drew _, hge, hcm, ?_, ?_⟩⟩, ⟨rfl, rfl, rfl, by simp, fun k hk _ => heap_alloc_old w.drew _ hk⟩⟩
  · simp only [Array.size_append, List.size_toArray, size_zeroCells, hzs, hlen, ← Nat.add_mul]
    congr 1
    omega
  · simp only [Array.toList_append]
    rw [← hlen]
    exact List.take_left
 rcases hown.2 with ⟨rfl, rfl⟩ | ⟨g, cap, cur, rfl, hbg, hg, hnc, hcm, hcs, htake⟩
 · have hx : xs = [] := List.eq_nil_of_length_eq_zero (by simpa using hown.1)
   subst hx
   by_cases hm : m = 0
   · subst hm
     have hn : news = [] := List.eq_nil_of_length_eq_zero (by simpa using hs.newsLen)
     subst hn
     refine ⟨.slice none 0 0, w, ?_, World.ownsRow_nil w base e i.size, ⟨rfl, rfl, rfl, Nat.le_refl _, fun _ _ _ => rfl⟩, .inl rfl, .inr rfl⟩
     rcases hs.kind with ⟨e', hk⟩ | hk <;> simp [Builtin.append_, run_underlying ht, run_underlying hk, sizeOf, typeInfo, hi, hs.len, hs.cells]
   · have hr := run_append_grow_src (P := P) w t tx ty e i z ht hi hz none 0 0 [] (run_firstCells_none w.drew i.size 0 0 0) x m news hs (by omega) (by omega)
      (growslice_fits (by omega) (by simpa using hbytes))
     have hgr := grown 0 (by omega) (Value.ownBlock (.slice none 0 0))
     exact ⟨_, _, hr, hgr.1, hgr.2, .inr rfl, .inl (by simp)⟩
 · by_cases hroom : n + m ≤ cap
   · have hfit : n * i.size + news.length ≤ cur.size := by rw [hs.newsLen, hcs, ← Nat.add_mul]; exact Nat.mul_le_mul_right _ hroom
     have hr := run_append_room_src (P := P) w t tx ty e i ht hi g 0 n cap x m news hs hroom
      (fun j hj => by rw [cell_of_row w g _ cur e _ hg]; simp; omega) (fun j hj => frozen_of_row w g _ cur e hg)
     obtain ⟨cur', h1, h2, h3⟩ := heap_setCells news (n * i.size) w cur hg hfit
     refine ⟨_, _, hr, ⟨hlen, .inr ⟨g, cap, cur', rfl, hbg, by simpa using h1, hroom, hcm, h2.trans hcs, ?_⟩⟩, setCells_grown _ _, .inl rfl, .inr rfl⟩
     rw [← htake, ← h3, Nat.add_mul, hs.newsLen]
   · have hr := run_append_grow_src (P := P) w t tx ty e i z ht hi hz (some ⟨g, 0, none⟩) n cap xs
      (run_firstCells_some w.drew i.size n ⟨g, 0, none⟩ n cap xs hown.1 (by simpa using hown.cells (g := g) rfl)) x m news hs (by omega) (by omega) (growslice_fits (by omega) hbytes)
     have hgr := grown cap (by omega) (Value.ownBlock (.slice (some ⟨g, 0, none⟩) n cap))
     exact ⟨_, _, hr, hgr.1, hgr.2, .inr rfl, .inl (by simp)⟩
theorem wpList_append_src {ops : Array Oper} {rest : List Oper} {o : Oper} {a : Act} {Q : Exit → Act → World → Prop} (hgd : o.guard = none) (s x : Operand) (t tx : TypeId)
 (ho : o.op = .call { callee := .builtin .append, args := #[s, x], argTypes := #[t, tx] })
 (base : Nat) (e : TypeId) (i : TypeInfo) (z : Value) (size bytes : Nat) (ht : P.underlying t = some (.slice e)) (hi : P.info? e = some i) (hz : i.zero = some z)
 (hsize : i.size = size) (hby : i.bytes = bytes) (hzs : z.cells.size = size)
 (v : Value) (n : Nat) (xs : List Value) (hv : a.eval s = v) (hown : w.ownsRow base e size v n xs)
 (xv : Value) (m : Nat) (news : List Value) (hx : a.eval x = xv) (hs : Src P size tx xv m news w)
 (h63 : n + m ≤ maxLen) (hbytes : (n + m) * bytes ≤ 140737488355328) (hbase : base ≤ w.heap.size)
 (h : ∀ v' w', w'.ownsRow base e size v' (n + m) (xs ++ news) → w.grownBy w' v.ownBlock → (v'.ownBlock = v.ownBlock ∨ v'.ownBlock = some w.heap.size) → wpList P ops Q rest (a.put o.dst v') w') : wpList P ops Q (o :: rest) a w :=
 wpList_plain hgd fun K hK => by
  obtain ⟨v', w', hr, h2, h3, h4, _⟩ := run_append_own_src (P := P) w base t tx o.type e i z size bytes ht hi hz hsize hby hzs v n xs hown xv m news hs h63 hbytes hbase
  unfold Oper.wp execOp
  simp only [ho, resolve, invoke, builtin, Sem.run_bind, Sem.run_pure, Result.andThen_ok, List.map_toArray, List.map_cons, List.map_nil, hv, hx, hr]
  exact hK _ _ (h v' w' h2 h3 h4)
end
def bvs (l : List UInt8) : List Value := l.map fun c => Value.int .u8 (c.toNat : Int)
theorem bvs_append (l m : List UInt8) : bvs (l ++ m) = bvs l ++ bvs m := by simp [bvs]
theorem bvs_length (l : List UInt8) : (bvs l).length = l.length := by simp [bvs]
theorem bvs_one (l : List UInt8) : ∀ u ∈ bvs l, u.oneCell' = true := fun u hu => by
 obtain ⟨_, _, rfl⟩ := List.mem_map.1 hu
 rfl
theorem Addr_add (b o j : Nat) : (⟨b, o, none⟩ : Addr).add j = ⟨b, o + j, none⟩ := by unfold Addr.add; split <;> simp_all
theorem BytesAt.src {P : Program} {w : World} {a : Option Addr} {l : List UInt8} (h : BytesAt w a l) {tx e' : TypeId} (hk : P.underlying tx = some (.slice e')) (cap : Nat) : Src P 1 tx (.slice a l.length cap) l.length (bvs l) w := by
 cases a with
 | none =>
  have : l = [] := by
   cases l with
   | nil => rfl
   | cons c r => obtain ⟨b, off, hh, _⟩ := h 0 (by simp); cases hh
  subst this
  exact Src.ofNil w hk cap
 | some a =>
  refine Src.ofSlice w hk a _ cap (bvs l) (by simp [bvs]) (fun j u hu => ?_) (bvs_one l)
  have hj : j < l.length := by
   have := (List.getElem?_eq_some_iff.1 hu).1
   simpa [bvs] using this
  obtain ⟨b, off, hh, hc⟩ := h j hj
  cases hh
  rw [Addr_add, hc]
  rw [← hu]; simp [bvs, hj]
theorem own_cell {w : World} {base n : Nat} {e : TypeId} {a : Option Addr} {len cap : Nat} {xs : List Value} (h : w.ownsRow base e 1 (.slice a len cap) n xs) (i : Nat) (u : Value) (hi : xs[i]? = some u) :
 ∃ g, a = some ⟨g, 0, none⟩ ∧ base ≤ g ∧ w.cell? ⟨g, i, none⟩ = some u ∧ (∀ j, w.frozen? ⟨g, j, none⟩ = false) ∧ len = n := by
 have hlt := (List.getElem?_eq_some_iff.1 hi).1
 rcases h.2 with ⟨hv, hn⟩ | ⟨g, cap', cur, hv, hb, hg, hnc, _, hcs, ht⟩
 · have := h.1; omega
 · have hcap : len = n ∧ a = some ⟨g, 0, none⟩ := by
    simp only [Value.slice.injEq] at hv
    exact ⟨hv.2.1, hv.1⟩
   obtain ⟨rfl, rfl⟩ := hcap
   refine ⟨g, rfl, hb, ?_, fun j => frozen_of_row w g j cur e hg, rfl⟩
   rw [cell_of_row w g i cur e _ hg]
   rw [← ht, List.getElem?_take] at hi
   split at hi
   · simpa using hi
   · cases hi
theorem own_slice {w : World} {base size n : Nat} {e : TypeId} {v : Value} {xs : List Value} (h : w.ownsRow base e size v n xs) : ∃ a cap, v = .slice a n cap ∧ n ≤ cap ∧ cap ≤ maxLen := by
 rcases h.2 with ⟨rfl, rfl⟩ | ⟨g, cap', cur, hv, _, _, h1, h2, _⟩
 · exact ⟨none, 0, rfl, Nat.le_refl _, Nat.zero_le _⟩
 · exact ⟨_, cap', hv, h1, h2⟩
theorem own_bytes {w : World} {base n : Nat} {e : TypeId} {a : Option Addr} {len cap : Nat} {l : List UInt8} (h : w.ownsRow base e 1 (.slice a len cap) n (bvs l)) : BytesAt w a l := by
 intro i hi
 obtain ⟨g, rfl, _, hc, _⟩ := own_cell h i (.int .u8 (l[i].toNat : Int)) (by simp [bvs, hi])
 exact ⟨g, 0, rfl, by rw [Nat.zero_add]; exact hc⟩
theorem own_below {w w' : World} {base size n B : Nat} {e : TypeId} {v : Value} {xs : List Value} (h : w.ownsRow base e size v n xs) (hb : Below B w w') (hB : ∀ k, v.ownBlock = some k → k < B) : w'.ownsRow base e size v n xs := by
 refine ⟨h.1, ?_⟩
 rcases h.2 with hn | ⟨g, cap', cur, rfl, h1, h2, r⟩
 · exact .inl hn
 · exact .inr ⟨g, cap', cur, rfl, h1, by rw [hb.block g (hB g rfl)]; exact h2, r⟩
theorem own_later {w w' : World} {base size n B : Nat} {e : TypeId} {v : Value} {xs : List Value} (h : w.ownsRow base e size v n xs) (hb : Below B w w') (hB : w.heap.size ≤ B) : w'.ownsRow base e size v n xs :=
 own_below h hb fun k hk => Nat.lt_of_lt_of_le (h.lt k hk).2 hB
theorem own_grown {w w' : World} {base size n : Nat} {row : Option Nat} {e : TypeId} {v : Value} {xs : List Value} (h : w.ownsRow base e size v n xs) (hg : w.grownBy w' row) (hr : ∀ k, v.ownBlock = some k → row ≠ some k) : w'.ownsRow base e size v n xs := by
 refine ⟨h.1, ?_⟩
 rcases h.2 with hn | ⟨g, cap', cur, rfl, h1, h2, r⟩
 · exact .inl hn
 · exact .inr ⟨g, cap', cur, rfl, h1, by rw [hg.block g ((h.lt g rfl).2) (fun e => hr g rfl e.symm)]; exact h2, r⟩
theorem own_mono {w : World} {base base' size n : Nat} {e : TypeId} {v : Value} {xs : List Value} (h : w.ownsRow base e size v n xs) (hb : base' ≤ base) : w.ownsRow base' e size v n xs := by
 refine ⟨h.1, ?_⟩
 rcases h.2 with hn | ⟨g, cap', cur, rfl, h1, r⟩
 · exact .inl hn
 · exact .inr ⟨g, cap', cur, rfl, Nat.le_trans hb h1, r⟩
theorem own_set {w : World} {base n g cap : Nat} {e : TypeId} {xs : List Value} (h : w.ownsRow base e 1 (.slice (some ⟨g, 0, none⟩) n cap) n xs) (i : Nat) (u : Value) :
 (w.setCell ⟨g, i, none⟩ u).ownsRow base e 1 (.slice (some ⟨g, 0, none⟩) n cap) n (xs.set i u) := by
 refine ⟨by simpa using h.1, ?_⟩
 rcases h.2 with ⟨hv, _⟩ | ⟨g', cap', cur, hv, h1, h2, h3, h4, h5, h6⟩
 · cases hv
 · simp only [Value.slice.injEq, Option.some.injEq, Addr.mk.injEq] at hv
   obtain ⟨⟨rfl, _⟩, _, rfl⟩ := hv
   refine .inr ⟨g, cap, cur.setIfInBounds i u, rfl, h1, heap_setCell_same w g i cur e u h2, h3, h4, by simpa using h5, ?_⟩
   rw [Array.toList_setIfInBounds, List.take_set, h6]
theorem own_new (w : World) (base : Nat) (e : TypeId) (vs : List Value) (hb : base ≤ w.heap.size) (hm : vs.length ≤ maxLen) : (w.alloc (.cells vs.toArray e)).ownsRow base e 1 (.slice (some ⟨w.heap.size, 0, none⟩) vs.length vs.length) vs.length vs :=
 ⟨by simp, .inr ⟨w.heap.size, vs.length, vs.toArray, rfl, hb, heap_alloc_new w _, Nat.le_refl _, hm, by simp, by simp⟩⟩
theorem conv_bytes {P : Program} {w : World} {a : Option Addr} {l : List UInt8} (h : BytesAt w a l) (src e dst : TypeId) (hs : P.underlying src = some (.slice e)) (he : P.underlying e = some (.int .u8)) (hd : P.underlying dst = some .string) (n cap : Nat) (hn : n = l.length) :
 (convert src dst (.slice a n cap)).run P w = .ok (.string ⟨l.toArray⟩) w := by
 subst hn
 rw [run_convert_bytes_string w src dst e a _ cap hs he hd]
 cases a with
 | none =>
  have : l = [] := by
   cases l with
   | nil => rfl
   | cons c r => obtain ⟨b, off, hh, _⟩ := h 0 (by simp); cases hh
  subst this
  simp [Conv.bytesToString]
  rfl
 | some a =>
  have hr := run_loadCells_list (P := P) w a (bvs l) (fun j u hu => by
   have hj : j < l.length := by
    have := (List.getElem?_eq_some_iff.1 hu).1
    simpa [bvs] using this
   obtain ⟨b, off, hh, hc⟩ := h j hj
   cases hh
   rw [Addr_add, hc]
   rw [← hu]; simp [bvs, hj])
  have he : (l.map fun c => (c.toNat : Int)).map (Value.int .u8) = bvs l := by simp [bvs]
  rw [run_bytesToString w a l.length cap (l.map fun c => (c.toNat : Int)) (by rw [he]; simpa [bvs_length] using hr)]
  congr 2
  have key : ∀ (l : List UInt8) (r : ByteArray), (l.map fun c => (c.toNat : Int)).foldl (fun r n => r.push (UInt8.ofNat n.toNat)) r = ⟨r.data ++ l.toArray⟩ := by
   intro l
   induction l with
   | nil => intro r; simp
   | cons c l ih =>
    intro r
    rw [List.map_cons, List.foldl_cons, ih]
    apply ByteArray.ext
    simp [ByteArray.push]
  rw [key]
  apply ByteArray.ext
  simp [ByteArray.empty, ByteArray.emptyWithCapacity]
  rfl
def subAddr (a : Option Addr) (cap l : Nat) : Option Addr := if cap = l then a else a.map (·.add l)
theorem BytesAt.sub {w : World} {a : Option Addr} {all : List UInt8} (h : BytesAt w a all) (cap l m : Nat) (hm : l + m ≤ all.length) (hc : all.length ≤ cap) : BytesAt w (subAddr a cap l) ((all.drop l).take m) := by
 intro i hi
 have him : i < m := by simp at hi; omega
 obtain ⟨b, off, rfl, hcell⟩ := h (l + i) (by omega)
 refine ⟨b, off + l, ?_, ?_⟩
 · unfold subAddr
   rw [if_neg (by omega)]
   simp [Addr_add]
 · rw [Nat.add_assoc, hcell]
   simp
end Go.Proofs.YtjlliohjeiclaaaGreatDoor
namespace Go.Proofs.YtjlliohjeiclaaaGreatDoor
open Go.RowKit
def CellsAt (w : World) (a : Option Addr) (vs : List Value) : Prop := ∀ i (h : i < vs.length), ∃ b off, a = some ⟨b, off, none⟩ ∧ w.cell? ⟨b, off + i, none⟩ = some vs[i]
theorem CellsAt.nil (w : World) (a : Option Addr) : CellsAt w a [] := fun i h => by simp at h
theorem CellsAt.below {w w' : World} {a : Option Addr} {vs : List Value} {B : Nat} (h : CellsAt w a vs) (hb : Below B w w') (hB : B = w.heap.size) : CellsAt w' a vs := by
 intro i hi
 obtain ⟨b, off, rfl, hc⟩ := h i hi
 have hl := cell_lt hc
 exact ⟨b, off, rfl, by rw [hb.cell (p := ⟨b, off + i, none⟩) (by simpa [hB] using hl)]; exact hc⟩
theorem CellsAt.new (w : World) (t : TypeId) (fr : Nat × Nat) (vs : List Value) : CellsAt (w.alloc (.cells vs.toArray t fr)) (some ⟨w.heap.size, 0, none⟩) vs := by
 intro i hi
 refine ⟨w.heap.size, 0, rfl, ?_⟩
 rw [Nat.zero_add, cell_new]
 simp
theorem CellsAt.get {w : World} {a : Option Addr} {vs : List Value} (h : CellsAt w a vs) (i : Nat) (v : Value) (hi : vs[i]? = some v) : ∃ b off, a = some ⟨b, off, none⟩ ∧ w.cell? ⟨b, off + i, none⟩ = some v := by
 obtain ⟨hlt, e⟩ := List.getElem?_eq_some_iff.1 hi
 obtain ⟨b, off, h1, h2⟩ := h i hlt
 exact ⟨b, off, h1, by rw [h2, e]⟩
theorem CellsAt.own {w : World} {base n : Nat} {e : TypeId} {a : Option Addr} {len cap : Nat} {vs : List Value} (h : w.ownsRow base e 1 (.slice a len cap) n vs) : CellsAt w a vs := by
 intro i hi
 obtain ⟨g, rfl, _, hc, _⟩ := own_cell h i vs[i] (by simp [hi])
 exact ⟨g, 0, rfl, by rw [Nat.zero_add]; exact hc⟩
end Go.Proofs.YtjlliohjeiclaaaGreatDoor
namespace Go.Proofs.YtjlliohjeiclaaaGreatDoor
open Go.RowKit Go.Shelf Go.Proofs
def lay196_ren : Go.Shelf.Ren := ⟨fun | 196 => 155 | 259 => 187 | n => n, fun | 0 => 0 | 3 => 3 | 4 => 4 | 5 => 5 | 9 => 9 | 12 => 12 | 46 => 186 | 53 => 224 | 119 => 240 | 138 => 242 | 139 => 243 | n => n, fun | 3 => 0 | 4 => 1 | n => n⟩
theorem lay196 : Go.Proofs.Lays.n196 Tryz.prog lay196_ren := {
 mixed := by kernel_rfl
 f196 := Tryz.func155.trans (congrArg some (by kernel_rfl))
 f259 := Tryz.func187.trans (congrArg some (by kernel_rfl))
 t0 := Tryz.underlying0
 a0 := Tryz.isAgg0
 z0 := Tryz.sizeOf0
 v0 := Tryz.zeroValue0
 t3 := Tryz.underlying3
 a3 := Tryz.isAgg3
 z3 := Tryz.sizeOf3
 v3 := Tryz.zeroValue3
 t4 := Tryz.underlying4
 a4 := Tryz.isAgg4
 z4 := Tryz.sizeOf4
 v4 := Tryz.zeroValue4
 t5 := Tryz.underlying5
 a5 := Tryz.isAgg5
 z5 := Tryz.sizeOf5
 v5 := Tryz.zeroValue5
 t9 := Tryz.underlying9
 a9 := Tryz.isAgg9
 z9 := Tryz.sizeOf9
 v9 := Tryz.zeroValue9
 t12 := Tryz.underlying12
 a12 := Tryz.isAgg12
 z12 := Tryz.sizeOf12
 v12 := Tryz.zeroValue12
 t46 := Tryz.underlying186
 a46 := Tryz.isAgg186
 z46 := Tryz.sizeOf186
 v46 := Tryz.zeroValue186
 t53 := Tryz.underlying224
 a53 := Tryz.isAgg224
 z53 := Tryz.sizeOf224
 v53 := Tryz.zeroValue224
 t119 := Tryz.underlying240
 a119 := Tryz.isAgg240
 z119 := Tryz.sizeOf240
 t138 := Tryz.underlying242
 a138 := Tryz.isAgg242
 z138 := Tryz.sizeOf242
 v138 := Tryz.zeroValue242
 t139 := Tryz.underlying243
 a139 := Tryz.isAgg243
 z139 := Tryz.sizeOf243
 v139 := Tryz.zeroValue243
 g3 := by kernel_rfl
 g4 := by kernel_rfl
}
def Glob (w : World) : Prop := Lib.Utf8Tabs 0 1 w ∧ ∃ m, w.cell? ⟨2, 0, none⟩ = some (.int .i64 m)
theorem Glob.below {w w' : World} (h : Glob w) (hb : Below w.heap.size w w') : Glob w' := by
 have hc : ∀ p v, w.cell? p = some v → w'.cell? p = some v := fun p v hv => (hb.cell (cell_lt hv)).trans hv
 obtain ⟨⟨h1, h2⟩, m, h3⟩ := h
 exact ⟨⟨fun c hc' => hc _ _ (h1 c hc'), fun i hi => ⟨hc _ _ (h2 i hi).1, hc _ _ (h2 i hi).2⟩⟩, m, hc _ _ h3⟩
end Go.Proofs.YtjlliohjeiclaaaGreatDoor
namespace Go.Proofs.YtjlliohjeiclaaaGreatDoor
namespace Pm
def klt (a b : ByteArray) : Bool := Op.bytesLess a.toList b.toList
theorem klt_iff (a b : ByteArray) : klt a b = true ↔ a.data.toList < b.data.toList := by
 unfold klt; rw [bytesLess_eq, ByteArray.toList_eq, ByteArray.toList_eq]; simp
theorem key_ext {a b : ByteArray} (h : a.data.toList = b.data.toList) : a = b := by
 apply ByteArray.ext; exact Array.toList_inj.1 h
theorem klt_irrefl (a : ByteArray) : klt a a = false := by
 cases h : klt a a with
 | false => rfl
 | true => exact absurd ((klt_iff a a).1 h) (List.lt_irrefl _)
theorem klt_trans {a b c : ByteArray} (h : klt a b = true) (k : klt b c = true) : klt a c = true :=
 (klt_iff a c).2 (List.lt_trans ((klt_iff a b).1 h) ((klt_iff b c).1 k))
theorem klt_asymm {a b : ByteArray} (h : klt a b = true) : klt b a = false := by
 cases k : klt b a with
 | false => rfl
 | true => have := klt_trans h k; rw [klt_irrefl] at this; cases this
theorem klt_tri {a b : ByteArray} (h : klt a b = false) (k : klt b a = false) : a = b := by
 apply key_ext
 have h1 : ¬ a.data.toList < b.data.toList := fun e => by rw [(klt_iff a b).2 e] at h; cases h
 have k1 : ¬ b.data.toList < a.data.toList := fun e => by rw [(klt_iff b a).2 e] at k; cases k
 exact List.le_antisymm (List.not_lt.1 k1) (List.not_lt.1 h1)
theorem klt_ne {a b : ByteArray} (h : klt a b = true) : a ≠ b := by
 rintro rfl; rw [klt_irrefl] at h; cases h
theorem eq_iff (a b : ByteArray) : (a.toList == b.toList) = decide (a = b) := by
 rw [ByteArray.toList_eq, ByteArray.toList_eq, Bool.eq_iff_iff]
 simp only [beq_iff_eq, decide_eq_true_eq]
 exact ⟨key_ext, fun h => by rw [h]⟩
inductive Tr (α : Type) where
 | nil : Tr α
 | node (b : Nat) (l : Tr α) (k : ByteArray) (v : α) (r : Tr α) : Tr α
section
variable {α : Type}
def ht : Tr α → Nat
 | .nil => 0
 | .node _ l _ _ r => max (ht l) (ht r) + 1
def sz : Tr α → Nat
 | .nil => 0
 | .node _ l _ _ r => sz l + sz r + 1
def items : Tr α → List (ByteArray × α)
 | .nil => []
 | .node _ l k v r => items l ++ (k, v) :: items r
def blocks : Tr α → List Nat
 | .nil => []
 | .node b l _ _ r => blocks l ++ b :: blocks r
def Bal : Tr α → Prop
 | .nil => True
 | .node _ l _ _ r => Bal l ∧ Bal r ∧ ht l ≤ ht r + 1 ∧ ht r ≤ ht l + 1
def pa : Tr α → Option Addr
 | .nil => none
 | .node b _ _ _ _ => some ⟨b, 0, none⟩
def Srt (l : List (ByteArray × α)) : Prop := l.Pairwise fun x y => klt x.1 y.1 = true
theorem sz_items (t : Tr α) : (items t).length = sz t := by
 induction t with
 | nil => rfl
 | node b l k v r ih1 ih2 => simp only [items, sz, List.length_append, List.length_cons, ih1, ih2]; omega
theorem ht_le (t : Tr α) : ht t ≤ sz t := by
 induction t with
 | nil => exact Nat.le_refl _
 | node b l k v r ih1 ih2 => simp only [ht, sz]; omega
theorem ht_pos {t : Tr α} (h : 0 < ht t) : ∃ b l k v r, t = .node b l k v r := by
 cases t with
 | nil => simp [ht] at h
 | node b l k v r => exact ⟨b, l, k, v, r, rfl⟩
inductive BalR (N : Nat) : Tr α → ByteArray → α → Tr α → Tr α → Prop
 | same {l r : Tr α} {k : ByteArray} {v : α} {b : Nat} : ht l ≤ ht r + 1 → ht r ≤ ht l + 1 → N ≤ b → BalR N l k v r (.node b l k v r)
 | ll {bl : Nat} {ll lr r : Tr α} {lk k : ByteArray} {lv v : α} {b1 b2 : Nat} : ht r + 1 < ht (.node bl ll lk lv lr) → ht lr ≤ ht ll → N ≤ b1 → N ≤ b2 →
  BalR N (.node bl ll lk lv lr) k v r (.node b1 ll lk lv (.node b2 lr k v r))
 | lr {bl bm : Nat} {ll ml mr r : Tr α} {lk mk k : ByteArray} {lv mv v : α} {b1 b2 b3 : Nat} : ht r + 1 < ht (.node bl ll lk lv (.node bm ml mk mv mr)) → ht ll < ht (.node bm ml mk mv mr) → N ≤ b1 → N ≤ b2 → N ≤ b3 →
  BalR N (.node bl ll lk lv (.node bm ml mk mv mr)) k v r (.node b1 (.node b2 ll lk lv ml) mk mv (.node b3 mr k v r))
 | rr {br : Nat} {l rl rr : Tr α} {rk k : ByteArray} {rv v : α} {b1 b2 : Nat} : ht l + 1 < ht (.node br rl rk rv rr) → ht rl ≤ ht rr → N ≤ b1 → N ≤ b2 →
  BalR N l k v (.node br rl rk rv rr) (.node b1 (.node b2 l k v rl) rk rv rr)
 | rl {br bm : Nat} {l ml mr rr : Tr α} {rk mk k : ByteArray} {rv mv v : α} {b1 b2 b3 : Nat} : ht l + 1 < ht (.node br (.node bm ml mk mv mr) rk rv rr) → ht rr < ht (.node bm ml mk mv mr) → N ≤ b1 → N ≤ b2 → N ≤ b3 →
  BalR N l k v (.node br (.node bm ml mk mv mr) rk rv rr) (.node b1 (.node b2 l k v ml) mk mv (.node b3 mr rk rv rr))
theorem BalR.mono {N N' : Nat} {l r t : Tr α} {k : ByteArray} {v : α} (h : BalR N l k v r t) (hN : N' ≤ N) : BalR N' l k v r t := by
 cases h with
 | same h1 h2 h3 => exact .same h1 h2 (Nat.le_trans hN h3)
 | ll h1 h2 h3 h4 => exact .ll h1 h2 (Nat.le_trans hN h3) (Nat.le_trans hN h4)
 | lr h1 h2 h3 h4 h5 => exact .lr h1 h2 (Nat.le_trans hN h3) (Nat.le_trans hN h4) (Nat.le_trans hN h5)
 | rr h1 h2 h3 h4 => exact .rr h1 h2 (Nat.le_trans hN h3) (Nat.le_trans hN h4)
 | rl h1 h2 h3 h4 h5 => exact .rl h1 h2 (Nat.le_trans hN h3) (Nat.le_trans hN h4) (Nat.le_trans hN h5)
theorem BalR.items {N : Nat} {l r t : Tr α} {k : ByteArray} {v : α} (h : BalR N l k v r t) : items t = items l ++ (k, v) :: items r := by
 cases h <;> simp [Pm.items]
theorem BalR.sz {N : Nat} {l r t : Tr α} {k : ByteArray} {v : α} (h : BalR N l k v r t) : sz t = sz l + sz r + 1 := by
 rw [← sz_items, h.items, ← sz_items l, ← sz_items r]; simp; omega
theorem BalR.bal {N : Nat} {l r t : Tr α} {k : ByteArray} {v : α} (h : BalR N l k v r t) (hl : Bal l) (hr : Bal r) (h1 : ht l ≤ ht r + 2) (h2 : ht r ≤ ht l + 2) :
 Bal t ∧ (ht t = max (ht l) (ht r) ∨ ht t = max (ht l) (ht r) + 1) ∧ (ht l ≤ ht r + 1 → ht r ≤ ht l + 1 → ht t = max (ht l) (ht r) + 1) := by
 cases h with
 | same h3 h4 h5 => exact ⟨⟨hl, hr, h3, h4⟩, .inr rfl, fun _ _ => rfl⟩
 | ll h3 h4 h5 h6 =>
  obtain ⟨b1, b2, b3, b4⟩ := hl
  simp only [ht] at *
  refine ⟨⟨b1, ⟨b2, hr, ?_, ?_⟩, ?_, ?_⟩, ?_, ?_⟩ <;> (try simp only [ht]) <;> omega
 | lr h3 h4 h5 h6 h7 =>
  obtain ⟨b1, ⟨b2, b3, b6, b7⟩, b4, b5⟩ := hl
  simp only [ht] at *
  refine ⟨⟨⟨b1, b2, ?_, ?_⟩, ⟨b3, hr, ?_, ?_⟩, ?_, ?_⟩, ?_, ?_⟩ <;> (try simp only [ht]) <;> omega
 | rr h3 h4 h5 h6 =>
  obtain ⟨b1, b2, b3, b4⟩ := hr
  simp only [ht] at *
  refine ⟨⟨⟨hl, b1, ?_, ?_⟩, b2, ?_, ?_⟩, ?_, ?_⟩ <;> (try simp only [ht]) <;> omega
 | rl h3 h4 h5 h6 h7 =>
  obtain ⟨⟨b1, b2, b6, b7⟩, b3, b4, b5⟩ := hr
  simp only [ht] at *
  refine ⟨⟨⟨hl, b1, ?_, ?_⟩, ⟨b2, b3, ?_, ?_⟩, ?_, ?_⟩, ?_, ?_⟩ <;> (try simp only [ht]) <;> omega
theorem BalR.plain {N : Nat} {l r t : Tr α} {k : ByteArray} {v : α} (h : BalR N l k v r t) (h1 : ht l ≤ ht r + 1) (h2 : ht r ≤ ht l + 1) : ∃ b, N ≤ b ∧ t = .node b l k v r := by
 cases h with
 | same _ _ h3 => exact ⟨_, h3, rfl⟩
 | ll h3 => exact absurd h3 (by omega)
 | lr h3 => exact absurd h3 (by omega)
 | rr h3 => exact absurd h3 (by omega)
 | rl h3 => exact absurd h3 (by omega)
inductive PutR (N : Nat) (k : ByteArray) (v : α) : Tr α → Tr α → Prop
 | nil {b : Nat} : N ≤ b → PutR N k v .nil (.node b .nil k v .nil)
 | lt {b : Nat} {l r l' t : Tr α} {k0 : ByteArray} {v0 : α} : klt k k0 = true → PutR N k v l l' → BalR N l' k0 v0 r t → PutR N k v (.node b l k0 v0 r) t
 | gt {b : Nat} {l r r' t : Tr α} {k0 : ByteArray} {v0 : α} : klt k0 k = true → PutR N k v r r' → BalR N l k0 v0 r' t → PutR N k v (.node b l k0 v0 r) t
 | eq {b b' : Nat} {l r : Tr α} {k0 : ByteArray} {v0 : α} : k = k0 → N ≤ b' → PutR N k v (.node b l k0 v0 r) (.node b' l k v r)
def ins (k : ByteArray) (v : α) : List (ByteArray × α) → List (ByteArray × α)
 | [] => [(k, v)]
 | x :: l => if klt k x.1 then (k, v) :: x :: l else if klt x.1 k then x :: ins k v l else (k, v) :: l
def del (k : ByteArray) (l : List (ByteArray × α)) : List (ByteArray × α) := l.filter fun x => decide (x.1 ≠ k)
theorem srt_append {l m : List (ByteArray × α)} : Srt (l ++ m) ↔ Srt l ∧ Srt m ∧ ∀ x ∈ l, ∀ y ∈ m, klt x.1 y.1 = true := List.pairwise_append
theorem srt_cons {x : ByteArray × α} {l : List (ByteArray × α)} : Srt (x :: l) ↔ (∀ y ∈ l, klt x.1 y.1 = true) ∧ Srt l := List.pairwise_cons
theorem ins_left {k : ByteArray} {v : α} {l m : List (ByteArray × α)} {x : ByteArray × α} (h : klt k x.1 = true) : ins k v (l ++ x :: m) = ins k v l ++ x :: m := by
 induction l with
 | nil => simp only [List.nil_append, ins]; rw [if_pos h]; rfl
 | cons y l ih =>
  simp only [List.cons_append, ins]
  by_cases h1 : klt k y.1 = true
  · rw [if_pos h1, if_pos h1]; rfl
  · rw [if_neg h1, if_neg h1]
    by_cases h2 : klt y.1 k = true
    · rw [if_pos h2, if_pos h2, ih]; rfl
    · rw [if_neg h2, if_neg h2]; rfl
theorem ins_right {k : ByteArray} {v : α} {l m : List (ByteArray × α)} {x : ByteArray × α} (h : klt x.1 k = true) (hl : ∀ y ∈ l, klt y.1 x.1 = true) : ins k v (l ++ x :: m) = l ++ x :: ins k v m := by
 induction l with
 | nil =>
  simp only [List.nil_append, ins]
  rw [if_neg (by rw [klt_asymm h]; simp), if_pos h]
 | cons y l ih =>
  have hy := klt_trans (hl y List.mem_cons_self) h
  simp only [List.cons_append, ins]
  rw [if_neg (by rw [klt_asymm hy]; simp), if_pos hy, ih (fun z hz => hl z (List.mem_cons_of_mem _ hz))]
theorem ins_here {k : ByteArray} {v v0 : α} {l m : List (ByteArray × α)} (hl : ∀ y ∈ l, klt y.1 k = true) : ins k v (l ++ (k, v0) :: m) = l ++ (k, v) :: m := by
 induction l with
 | nil =>
  simp only [List.nil_append, ins]
  rw [if_neg (by rw [klt_irrefl]; simp), if_neg (by rw [klt_irrefl]; simp)]
 | cons y l ih =>
  have hy := hl y List.mem_cons_self
  simp only [List.cons_append, ins]
  rw [if_neg (by rw [klt_asymm hy]; simp), if_pos hy, ih (fun z hz => hl z (List.mem_cons_of_mem _ hz))]
theorem ins_mem {k : ByteArray} {v : α} : ∀ {l : List (ByteArray × α)} {y : ByteArray × α}, y ∈ ins k v l → y = (k, v) ∨ y ∈ l
 | [], y, h => by simp [ins] at h; exact .inl h
 | x :: l, y, h => by
  simp only [ins] at h
  split at h
  · rcases List.mem_cons.1 h with h | h
    · exact .inl h
    · exact .inr h
  · split at h
    · rcases List.mem_cons.1 h with h | h
      · exact .inr (h ▸ List.mem_cons_self)
      · rcases ins_mem h with h | h
        · exact .inl h
        · exact .inr (List.mem_cons_of_mem _ h)
    · rcases List.mem_cons.1 h with h | h
      · exact .inl h
      · exact .inr (List.mem_cons_of_mem _ h)
theorem ins_srt {k : ByteArray} {v : α} : ∀ {l : List (ByteArray × α)}, Srt l → Srt (ins k v l)
 | [], _ => by simp [ins, Srt]
 | x :: l, h => by
  obtain ⟨h1, h2⟩ := srt_cons.1 h
  simp only [ins]
  by_cases hk : klt k x.1 = true
  · rw [if_pos hk]
    exact srt_cons.2 ⟨fun y hy => by
     rcases List.mem_cons.1 hy with rfl | hy
     · exact hk
     · exact klt_trans hk (h1 y hy), h⟩
  · rw [if_neg hk]
    by_cases hx : klt x.1 k = true
    · rw [if_pos hx]
      exact srt_cons.2 ⟨fun y hy => by
       rcases ins_mem hy with rfl | hy
       · exact hx
       · exact h1 y hy, ins_srt h2⟩
    · rw [if_neg hx]
      have e := klt_tri (by simpa using hk) (by simpa using hx)
      exact srt_cons.2 ⟨fun y hy => by dsimp only; rw [e]; exact h1 y hy, h2⟩
theorem PutR.items {N : Nat} {k : ByteArray} {v : α} {t t' : Tr α} (h : PutR N k v t t') (hs : Srt (items t)) : items t' = ins k v (items t) := by
 induction h with
 | nil => rfl
 | lt h1 h2 h3 ih =>
  obtain ⟨s1, s2, s3⟩ := srt_append.1 hs
  rw [h3.items, ih s1]
  exact (ins_left (x := (_, _)) h1).symm
 | gt h1 h2 h3 ih =>
  obtain ⟨s1, s2, s3⟩ := srt_append.1 hs
  rw [h3.items, ih (srt_cons.1 s2).2]
  exact (ins_right (x := (_, _)) h1 (fun y hy => s3 y hy _ List.mem_cons_self)).symm
 | eq h1 h2 =>
  subst h1
  obtain ⟨s1, s2, s3⟩ := srt_append.1 hs
  exact (ins_here (fun y hy => s3 y hy _ List.mem_cons_self)).symm
theorem PutR.bal {N : Nat} {k : ByteArray} {v : α} {t t' : Tr α} (h : PutR N k v t t') (hb : Bal t) : Bal t' ∧ (ht t' = ht t ∨ ht t' = ht t + 1) := by
 induction h with
 | nil => exact ⟨⟨trivial, trivial, by simp [ht], by simp [ht]⟩, .inr rfl⟩
 | lt h1 h2 h3 ih =>
  obtain ⟨b1, b2, b3, b4⟩ := hb
  obtain ⟨i1, i2⟩ := ih b1
  obtain ⟨g1, g2, g3⟩ := h3.bal i1 b2 (by omega) (by omega)
  refine ⟨g1, ?_⟩
  simp only [ht]
  omega
 | gt h1 h2 h3 ih =>
  obtain ⟨b1, b2, b3, b4⟩ := hb
  obtain ⟨i1, i2⟩ := ih b2
  obtain ⟨g1, g2, g3⟩ := h3.bal b1 i1 (by omega) (by omega)
  refine ⟨g1, ?_⟩
  simp only [ht]
  omega
 | eq h1 h2 => exact ⟨hb, .inl rfl⟩
theorem ins_length {k : ByteArray} {v : α} : ∀ (l : List (ByteArray × α)), (ins k v l).length ≤ l.length + 1
 | [] => by simp [ins]
 | x :: l => by
  simp only [ins]
  split
  · simp
  · split
    · have := ins_length (k := k) (v := v) l; simp; omega
    · simp
inductive FirstR (N : Nat) : Tr α → ByteArray → α → Tr α → Prop
 | here {b : Nat} {k : ByteArray} {v : α} {r : Tr α} : FirstR N (.node b .nil k v r) k v r
 | left {b : Nat} {l r l' t : Tr α} {k k1 : ByteArray} {v v1 : α} : FirstR N l k1 v1 l' → BalR N l' k v r t → FirstR N (.node b l k v r) k1 v1 t
theorem FirstR.items {N : Nat} {t t' : Tr α} {k : ByteArray} {v : α} (h : FirstR N t k v t') : items t = (k, v) :: items t' := by
 induction h with
 | here => rfl
 | left h1 h2 ih => rw [h2.items]; simp only [Pm.items, ih, List.cons_append]
theorem FirstR.bal {N : Nat} {t t' : Tr α} {k : ByteArray} {v : α} (h : FirstR N t k v t') (hb : Bal t) : Bal t' ∧ (ht t' = ht t ∨ ht t = ht t' + 1) := by
 induction h with
 | here => obtain ⟨b1, b2, b3, b4⟩ := hb; exact ⟨b2, .inr (by simp [ht])⟩
 | left h1 h2 ih =>
  obtain ⟨b1, b2, b3, b4⟩ := hb
  obtain ⟨i1, i2⟩ := ih b1
  obtain ⟨g1, g2, g3⟩ := h2.bal i1 b2 (by omega) (by omega)
  refine ⟨g1, ?_⟩
  simp only [ht]
  omega
inductive TakeR (N : Nat) (k : ByteArray) : Tr α → Tr α → Prop
 | lt {b : Nat} {l r l' t : Tr α} {k0 : ByteArray} {v0 : α} : klt k k0 = true → TakeR N k l l' → BalR N l' k0 v0 r t → TakeR N k (.node b l k0 v0 r) t
 | gt {b : Nat} {l r r' t : Tr α} {k0 : ByteArray} {v0 : α} : klt k0 k = true → TakeR N k r r' → BalR N l k0 v0 r' t → TakeR N k (.node b l k0 v0 r) t
 | last {b : Nat} {l : Tr α} {k0 : ByteArray} {v0 : α} : k = k0 → TakeR N k (.node b l k0 v0 .nil) l
 | eq {b : Nat} {l r r' t : Tr α} {k0 k1 : ByteArray} {v0 v1 : α} : k = k0 → FirstR N r k1 v1 r' → BalR N l k1 v1 r' t → TakeR N k (.node b l k0 v0 r) t
theorem del_none {k : ByteArray} {l : List (ByteArray × α)} (h : ∀ x ∈ l, x.1 ≠ k) : del k l = l := by
 unfold del; rw [List.filter_eq_self]; intro x hx; simpa using h x hx
theorem del_append (k : ByteArray) (l m : List (ByteArray × α)) : del k (l ++ m) = del k l ++ del k m := List.filter_append ..
theorem del_here (k : ByteArray) (v : α) (l : List (ByteArray × α)) : del k ((k, v) :: l) = del k l := by simp [del]
theorem del_other {k : ByteArray} {x : ByteArray × α} (l : List (ByteArray × α)) (h : x.1 ≠ k) : del k (x :: l) = x :: del k l := by simp [del, h]
theorem TakeR.items {N : Nat} {k : ByteArray} {t t' : Tr α} (h : TakeR N k t t') (hs : Srt (items t)) : items t' = del k (items t) := by
 induction h with
 | lt h1 h2 h3 ih =>
  obtain ⟨s1, s2, s3⟩ := srt_append.1 hs
  obtain ⟨s4, s5⟩ := srt_cons.1 s2
  rw [h3.items, ih s1]
  simp only [Pm.items, del_append]
  congr 1
  rw [del_other _ (Ne.symm (klt_ne h1)), del_none (fun x hx => Ne.symm (klt_ne (klt_trans h1 (s4 x hx))))]
 | gt h1 h2 h3 ih =>
  obtain ⟨s1, s2, s3⟩ := srt_append.1 hs
  obtain ⟨s4, s5⟩ := srt_cons.1 s2
  rw [h3.items, ih s5]
  simp only [Pm.items, del_append]
  rw [del_other _ (klt_ne h1), del_none (fun x hx => klt_ne (klt_trans (s3 x hx _ List.mem_cons_self) h1))]
 | last h1 =>
  subst h1
  obtain ⟨s1, s2, s3⟩ := srt_append.1 hs
  simp only [Pm.items, del_append, del_here]
  rw [del_none (fun x hx => klt_ne (s3 x hx _ List.mem_cons_self))]
  simp [del]
 | eq h1 h2 h3 =>
  subst h1
  obtain ⟨s1, s2, s3⟩ := srt_append.1 hs
  obtain ⟨s4, s5⟩ := srt_cons.1 s2
  simp only [Pm.items, del_append, del_here]
  rw [h3.items, del_none (fun x hx => klt_ne (s3 x hx _ List.mem_cons_self)), del_none (fun x hx => Ne.symm (klt_ne (s4 x hx))), h2.items]
theorem TakeR.bal {N : Nat} {k : ByteArray} {t t' : Tr α} (h : TakeR N k t t') (hb : Bal t) : Bal t' ∧ (ht t' = ht t ∨ ht t = ht t' + 1) := by
 induction h with
 | lt h1 h2 h3 ih =>
  obtain ⟨b1, b2, b3, b4⟩ := hb
  obtain ⟨i1, i2⟩ := ih b1
  obtain ⟨g1, g2, g3⟩ := h3.bal i1 b2 (by omega) (by omega)
  refine ⟨g1, ?_⟩
  simp only [ht]
  omega
 | gt h1 h2 h3 ih =>
  obtain ⟨b1, b2, b3, b4⟩ := hb
  obtain ⟨i1, i2⟩ := ih b2
  obtain ⟨g1, g2, g3⟩ := h3.bal b1 i1 (by omega) (by omega)
  refine ⟨g1, ?_⟩
  simp only [ht]
  omega
 | last h1 => obtain ⟨b1, b2, b3, b4⟩ := hb; exact ⟨b1, .inr (by simp [ht])⟩
 | eq h1 h2 h3 =>
  obtain ⟨b1, b2, b3, b4⟩ := hb
  obtain ⟨i1, i2⟩ := h2.bal b2
  obtain ⟨g1, g2, g3⟩ := h3.bal b1 i1 (by omega) (by omega)
  refine ⟨g1, ?_⟩
  simp only [ht]
  omega
def seek (k : ByteArray) : Tr α → Tr α
 | .nil => .nil
 | .node b l k0 v0 r => if klt k k0 then seek k l else if klt k0 k then seek k r else .node b l k0 v0 r
inductive JoinR (N : Nat) (k : ByteArray) (v : α) : Tr α → Tr α → Tr α → Prop
 | left {b : Nat} {ll lr r t1 t : Tr α} {lk : ByteArray} {lv : α} : ht r + 1 < ht (.node b ll lk lv lr) → JoinR N k v lr r t1 → BalR N ll lk lv t1 t → JoinR N k v (.node b ll lk lv lr) r t
 | right {b : Nat} {l rl rr t1 t : Tr α} {rk : ByteArray} {rv : α} : ht l + 1 < ht (.node b rl rk rv rr) → JoinR N k v l rl t1 → BalR N t1 rk rv rr t → JoinR N k v l (.node b rl rk rv rr) t
 | same {b : Nat} {l r : Tr α} : ht l ≤ ht r + 1 → ht r ≤ ht l + 1 → N ≤ b → JoinR N k v l r (.node b l k v r)
theorem JoinR.items {N : Nat} {k : ByteArray} {v : α} {l r t : Tr α} (h : JoinR N k v l r t) : items t = items l ++ (k, v) :: items r := by
 induction h with
 | left h1 h2 h3 ih => rw [h3.items, ih]; simp [Pm.items]
 | right h1 h2 h3 ih => rw [h3.items, ih]; simp [Pm.items]
 | same => rfl
theorem JoinR.bal {N : Nat} {k : ByteArray} {v : α} {l r t : Tr α} (h : JoinR N k v l r t) (hl : Bal l) (hr : Bal r) : Bal t ∧ (ht t = max (ht l) (ht r) ∨ ht t = max (ht l) (ht r) + 1) := by
 induction h with
 | left h1 h2 h3 ih =>
  obtain ⟨b1, b2, b3, b4⟩ := hl
  obtain ⟨i1, i2⟩ := ih b2 hr
  simp only [ht] at *
  obtain ⟨g1, g2, g3⟩ := h3.bal b1 i1 (by omega) (by omega)
  exact ⟨g1, by omega⟩
 | right h1 h2 h3 ih =>
  obtain ⟨b1, b2, b3, b4⟩ := hr
  obtain ⟨i1, i2⟩ := ih hl b1
  simp only [ht] at *
  obtain ⟨g1, g2, g3⟩ := h3.bal i1 b2 (by omega) (by omega)
  exact ⟨g1, by omega⟩
 | same h1 h2 h3 => exact ⟨⟨hl, hr, h1, h2⟩, .inr rfl⟩
inductive SplitR (N : Nat) (k : ByteArray) : Tr α → Tr α → Tr α → Tr α → Prop
 | nil : SplitR N k .nil .nil .nil .nil
 | lt {b : Nat} {l r a x c c' : Tr α} {k0 : ByteArray} {v0 : α} : klt k k0 = true → SplitR N k l a x c → JoinR N k0 v0 c r c' → SplitR N k (.node b l k0 v0 r) a x c'
 | gt {b : Nat} {l r a x c a' : Tr α} {k0 : ByteArray} {v0 : α} : klt k0 k = true → SplitR N k r a x c → JoinR N k0 v0 l a a' → SplitR N k (.node b l k0 v0 r) a' x c
 | eq {b : Nat} {l r : Tr α} {k0 : ByteArray} {v0 : α} : k = k0 → SplitR N k (.node b l k0 v0 r) l (.node b l k0 v0 r) r
theorem SplitR.bal {N : Nat} {k : ByteArray} {t a x c : Tr α} (h : SplitR N k t a x c) (hb : Bal t) : Bal a ∧ Bal c := by
 induction h with
 | nil => exact ⟨trivial, trivial⟩
 | lt h1 h2 h3 ih => obtain ⟨b1, b2, b3, b4⟩ := hb; obtain ⟨i1, i2⟩ := ih b1; exact ⟨i1, (h3.bal i2 b2).1⟩
 | gt h1 h2 h3 ih => obtain ⟨b1, b2, b3, b4⟩ := hb; obtain ⟨i1, i2⟩ := ih b2; exact ⟨(h3.bal b1 i1).1, i2⟩
 | eq => obtain ⟨b1, b2, b3, b4⟩ := hb; exact ⟨b1, b2⟩
def here : Tr α → List (ByteArray × α)
 | .nil => []
 | .node _ _ k v _ => [(k, v)]
theorem SplitR.items {N : Nat} {k : ByteArray} {t a x c : Tr α} (h : SplitR N k t a x c) : items t = items a ++ here x ++ items c := by
 induction h with
 | nil => rfl
 | lt h1 h2 h3 ih => rw [h3.items]; simp [Pm.items, ih]
 | gt h1 h2 h3 ih => rw [h3.items]; simp [Pm.items, ih]
 | eq => simp [Pm.items, here]
theorem SplitR.seek {N : Nat} {k : ByteArray} {t a x c : Tr α} (h : SplitR N k t a x c) : x = seek k t := by
 induction h with
 | nil => rfl
 | lt h1 h2 h3 ih => simp only [Pm.seek]; rw [if_pos h1]; exact ih
 | gt h1 h2 h3 ih => simp only [Pm.seek]; rw [if_neg (by rw [klt_asymm h1]; simp), if_pos h1]; exact ih
 | eq h1 => subst h1; simp only [Pm.seek]; rw [klt_irrefl]; simp
theorem seek_none {k : ByteArray} {t : Tr α} (hs : Srt (items t)) (h : seek k t = .nil) : ∀ x ∈ items t, x.1 ≠ k := by
 induction t with
 | nil => intro x hx; simp [items] at hx
 | node b l k0 v0 r ih1 ih2 =>
  obtain ⟨s1, s2, s3⟩ := srt_append.1 hs
  obtain ⟨s4, s5⟩ := srt_cons.1 s2
  simp only [seek] at h
  intro x hx
  simp only [items, List.mem_append, List.mem_cons] at hx
  by_cases h1 : klt k k0 = true
  · rw [if_pos h1] at h
    rcases hx with hx | rfl | hx
    · exact ih1 s1 h x hx
    · exact Ne.symm (klt_ne h1)
    · exact Ne.symm (klt_ne (klt_trans h1 (s4 x hx)))
  · rw [if_neg h1] at h
    by_cases h2 : klt k0 k = true
    · rw [if_pos h2] at h
      rcases hx with hx | rfl | hx
      · exact klt_ne (klt_trans (s3 x hx _ List.mem_cons_self) h2)
      · exact klt_ne h2
      · exact ih2 s5 h x hx
    · rw [if_neg h2] at h; cases h
theorem seek_some {k : ByteArray} {t : Tr α} {b : Nat} {l r : Tr α} {k0 : ByteArray} {v0 : α} (h : seek k t = .node b l k0 v0 r) : k0 = k ∧ (k, v0) ∈ items t := by
 induction t with
 | nil => cases h
 | node b1 l1 k1 v1 r1 ih1 ih2 =>
  simp only [seek] at h
  by_cases h1 : klt k k1 = true
  · rw [if_pos h1] at h
    obtain ⟨g1, g2⟩ := ih1 h
    exact ⟨g1, by simp only [items, List.mem_append]; exact .inl g2⟩
  · rw [if_neg h1] at h
    by_cases h2 : klt k1 k = true
    · rw [if_pos h2] at h
      obtain ⟨g1, g2⟩ := ih2 h
      exact ⟨g1, by simp only [items, List.mem_append, List.mem_cons]; exact .inr (.inr g2)⟩
    · rw [if_neg h2] at h
      cases h
      have e := klt_tri (by simpa using h1) (by simpa using h2)
      subst e
      exact ⟨rfl, by simp [items]⟩
theorem seek_mem {k : ByteArray} {t : Tr α} (hs : Srt (items t)) (h : ∃ x ∈ items t, x.1 = k) : ∃ b l v r, seek k t = .node b l k v r := by
 cases hl : seek k t with
 | nil =>
  obtain ⟨x, hx, e⟩ := h
  exact absurd e (seek_none hs hl x hx)
 | node b l k0 v0 r =>
  obtain ⟨rfl, _⟩ := seek_some hl
  exact ⟨b, l, v0, r, rfl⟩
end
end Pm
end Go.Proofs.YtjlliohjeiclaaaGreatDoor
namespace Go.Proofs.YtjlliohjeiclaaaGreatDoor
namespace St
open Go.Op
theorem bl_append : ∀ (x y a b : List UInt8), x.length = y.length → bytesLess (x ++ a) (y ++ b) = (bytesLess x y || (x == y && bytesLess a b))
 | [], [], a, b, _ => by cases b <;> cases a <;> simp [bytesLess]
 | [], _ :: _, _, _, h => by simp at h
 | _ :: _, [], _, _, h => by simp at h
 | c :: x, d :: y, a, b, h => by
  have ih := bl_append x y a b (by simpa using h)
  simp only [List.cons_append, bytesLess, ih]
  by_cases e : c = d
  · subst e; simp
  · have : (c == d) = false := by simpa using e
    simp [this, e]
def dig : Nat → Nat → List UInt8
 | 0, _ => []
 | k + 1, n => UInt8.ofNat (n / 256 ^ k % 256) :: dig k n
theorem dig_length (k n : Nat) : (dig k n).length = k := by induction k with
 | zero => rfl
 | succ k ih => simp [dig, ih]
theorem dig_lt_eq (k : Nat) : ∀ n m : Nat, bytesLess (dig k n) (dig k m) = decide (n % 256 ^ k < m % 256 ^ k) ∧ (dig k n = dig k m ↔ n % 256 ^ k = m % 256 ^ k) := by
 induction k with
 | zero => intro n m; simp [dig, bytesLess, Nat.mod_one]
 | succ k ih =>
  intro n m
  obtain ⟨h1, h2⟩ := ih n m
  have e1 : n % 256 ^ (k + 1) = n % 256 ^ k + 256 ^ k * (n / 256 ^ k % 256) := by rw [Nat.pow_succ]; exact Nat.mod_mul
  have e2 : m % 256 ^ (k + 1) = m % 256 ^ k + 256 ^ k * (m / 256 ^ k % 256) := by rw [Nat.pow_succ]; exact Nat.mod_mul
  have l1 : n / 256 ^ k % 256 < 256 := Nat.mod_lt _ (by omega)
  have l2 : m / 256 ^ k % 256 < 256 := Nat.mod_lt _ (by omega)
  have hp : 0 < 256 ^ k := Nat.pow_pos (by omega)
  have r1 : n % 256 ^ k < 256 ^ k := Nat.mod_lt _ hp
  have r2 : m % 256 ^ k < 256 ^ k := Nat.mod_lt _ hp
  rw [e1, e2]
  simp only [dig, bytesLess, h1, List.cons.injEq, h2]
  clear e1 e2 h1 h2 ih
  generalize n / 256 ^ k % 256 = a at *
  generalize m / 256 ^ k % 256 = b at *
  generalize n % 256 ^ k = x at *
  generalize m % 256 ^ k = y at *
  generalize 256 ^ k = P at *
  have ta : (UInt8.ofNat a).toNat = a := by simp [UInt8.toNat_ofNat']; omega
  have tb : (UInt8.ofNat b).toNat = b := by simp [UInt8.toNat_ofNat']; omega
  have hlt : (UInt8.ofNat a < UInt8.ofNat b) ↔ a < b := by rw [UInt8.lt_iff_toNat_lt, ta, tb]
  have heq : (UInt8.ofNat a = UInt8.ofNat b) ↔ a = b := ⟨fun h => by rw [← ta, ← tb, h], fun h => by rw [h]⟩
  simp only [heq]
  rcases Nat.lt_trichotomy a b with h | h | h
  · have hm : P * a + P ≤ P * b := by rw [← Nat.mul_succ]; exact Nat.mul_le_mul_left P h
    refine ⟨?_, by omega⟩
    rw [decide_eq_true (hlt.2 h), decide_eq_true (show x + P * a < y + P * b by omega)]; rfl
  · subst h
    refine ⟨?_, by omega⟩
    have : ¬ UInt8.ofNat a < UInt8.ofNat a := fun h => by have := hlt.1 h; omega
    rw [decide_eq_false this]
    simp
  · have hm : P * b + P ≤ P * a := by rw [← Nat.mul_succ]; exact Nat.mul_le_mul_left P h
    refine ⟨?_, by omega⟩
    have hn : ¬ UInt8.ofNat a < UInt8.ofNat b := fun h' => by have := hlt.1 h'; omega
    have hq : (UInt8.ofNat a == UInt8.ofNat b) = false := by
     have : ¬ UInt8.ofNat a = UInt8.ofNat b := fun h' => by have := heq.1 h'; omega
     simpa using this
    rw [decide_eq_false hn, hq, decide_eq_false (show ¬ x + P * a < y + P * b by omega)]; rfl
theorem bl_term : ∀ (x y a b : List UInt8), (∀ c ∈ x, (0 : UInt8) < c) → (∀ c ∈ y, (0 : UInt8) < c) → bytesLess (x ++ 0 :: a) (y ++ 0 :: b) = (bytesLess x y || (x == y && bytesLess a b))
 | [], [], a, b, _, _ => by simp [bytesLess]
 | [], d :: y, a, b, _, h => by
  have := h d List.mem_cons_self
  simp [bytesLess, this]
 | c :: x, [], a, b, h, _ => by
  have h1 := h c List.mem_cons_self
  have h2 : ¬ c < 0 := fun h' => by rw [UInt8.lt_iff_toNat_lt] at h1 h'; omega
  have h3 : (c == 0) = false := by
   have : ¬ c = 0 := fun e => by rw [e] at h1; rw [UInt8.lt_iff_toNat_lt] at h1; omega
   simpa using this
  simp [bytesLess, h2, h3]
 | c :: x, d :: y, a, b, h1, h2 => by
  have ih := bl_term x y a b (fun e he => h1 e (List.mem_cons_of_mem _ he)) (fun e he => h2 e (List.mem_cons_of_mem _ he))
  simp only [List.cons_append, bytesLess, ih]
  by_cases e : c = d
  · subst e; simp
  · have : (c == d) = false := by simpa using e
    simp [this, e]
structure Stp where
 gen : Nat
 repo : Nat
 label : List UInt8
 num : Nat
 idx : Nat
deriving DecidableEq
def okLabel (l : List UInt8) : Bool := l.all (fun c => decide (97 ≤ c.toNat) && decide (c.toNat ≤ 122)) && decide (1 ≤ l.length) && decide (l.length ≤ 12)
def Stp.ok (s : Stp) : Bool := decide (1 ≤ s.gen) && decide (s.gen ≤ 2 ^ 62) && decide (s.repo < 8) && okLabel s.label && decide (1 ≤ s.num) && decide (s.num ≤ 2 ^ 62) && decide (s.idx < 64)
def Stp.key (s : Stp) : List UInt8 := dig 8 s.gen ++ (dig 1 s.repo ++ (s.label ++ 0 :: (dig 8 s.num ++ dig 1 s.idx)))
def Stp.lt (s t : Stp) : Bool := decide (s.gen < t.gen) || (s.gen == t.gen && (decide (s.repo < t.repo) || (s.repo == t.repo && (bytesLess s.label t.label || (s.label == t.label && (decide (s.num < t.num) || (s.num == t.num && decide (s.idx < t.idx))))))))
theorem okLabel_pos {l : List UInt8} (h : okLabel l = true) : ∀ c ∈ l, (0 : UInt8) < c := fun c hc => by
 unfold okLabel at h
 simp only [Bool.and_eq_true, List.all_eq_true, decide_eq_true_eq] at h
 have := (h.1.1 c hc).1
 rw [UInt8.lt_iff_toNat_lt]
 show 0 < c.toNat
 omega
theorem ok_bounds {s : Stp} (h : s.ok = true) : s.gen % 256 ^ 8 = s.gen ∧ s.repo % 256 ^ 1 = s.repo ∧ s.num % 256 ^ 8 = s.num ∧ s.idx % 256 ^ 1 = s.idx ∧ okLabel s.label = true := by
 unfold Stp.ok at h
 simp only [Bool.and_eq_true, decide_eq_true_eq] at h
 obtain ⟨⟨⟨⟨⟨⟨h1, h2⟩, h3⟩, h4⟩, h5⟩, h6⟩, h7⟩ := h
 refine ⟨Nat.mod_eq_of_lt ?_, Nat.mod_eq_of_lt (by omega), Nat.mod_eq_of_lt ?_, Nat.mod_eq_of_lt (by omega), h4⟩
 · have : (2 : Nat) ^ 62 < 256 ^ 8 := by decide
   omega
 · have : (2 : Nat) ^ 62 < 256 ^ 8 := by decide
   omega
theorem key_lt {s t : Stp} (hs : s.ok = true) (ht : t.ok = true) : bytesLess s.key t.key = s.lt t := by
 obtain ⟨a1, a2, a3, a4, a5⟩ := ok_bounds hs
 obtain ⟨b1, b2, b3, b4, b5⟩ := ok_bounds ht
 have d8 : ∀ n m : Nat, n % 256 ^ 8 = n → m % 256 ^ 8 = m → (dig 8 n == dig 8 m) = (n == m) := fun n m hn hm => by
  have := (dig_lt_eq 8 n m).2
  rw [hn, hm] at this
  by_cases e : n = m
  · subst e; simp
  · have h2 : ¬ dig 8 n = dig 8 m := fun h => e (this.1 h)
    rw [beq_eq_false_iff_ne.2 h2, beq_eq_false_iff_ne.2 e]
 have d1 : ∀ n m : Nat, n % 256 ^ 1 = n → m % 256 ^ 1 = m → (dig 1 n == dig 1 m) = (n == m) := fun n m hn hm => by
  have := (dig_lt_eq 1 n m).2
  rw [hn, hm] at this
  by_cases e : n = m
  · subst e; simp
  · have h2 : ¬ dig 1 n = dig 1 m := fun h => e (this.1 h)
    rw [beq_eq_false_iff_ne.2 h2, beq_eq_false_iff_ne.2 e]
 unfold Stp.key Stp.lt
 rw [bl_append _ _ _ _ (by simp [dig_length]), bl_append _ _ _ _ (by simp [dig_length]), bl_term _ _ _ _ (okLabel_pos a5) (okLabel_pos b5), bl_append _ _ _ _ (by simp [dig_length])]
 rw [(dig_lt_eq 8 s.gen t.gen).1, (dig_lt_eq 1 s.repo t.repo).1, (dig_lt_eq 8 s.num t.num).1, (dig_lt_eq 1 s.idx t.idx).1, a1, a2, a3, a4, b1, b2, b3, b4, d8 _ _ a1 b1, d8 _ _ a3 b3, d1 _ _ a2 b2]
def num8 (l : List UInt8) : Nat := l.foldl (fun n c => 256 * n + c.toNat) 0
theorem num8_dig (k n : Nat) : ∀ acc : Nat, (dig k n).foldl (fun m c => 256 * m + c.toNat) acc = 256 ^ k * acc + n % 256 ^ k := by
 induction k with
 | zero => intro acc; simp [dig, Nat.mod_one]
 | succ k ih =>
  intro acc
  have e1 : n % 256 ^ (k + 1) = n % 256 ^ k + 256 ^ k * (n / 256 ^ k % 256) := by rw [Nat.pow_succ]; exact Nat.mod_mul
  have ta : (UInt8.ofNat (n / 256 ^ k % 256)).toNat = n / 256 ^ k % 256 := by simp [UInt8.toNat_ofNat']
  simp only [dig, List.foldl_cons]
  rw [ih, ta, e1, Nat.pow_succ]
  generalize n / 256 ^ k % 256 = a
  generalize n % 256 ^ k = b
  generalize 256 ^ k = P
  rw [Nat.mul_add, ← Nat.mul_assoc]
  omega
theorem num8_key (n : Nat) (h : n % 256 ^ 8 = n) : num8 (dig 8 n) = n := by
 unfold num8
 rw [num8_dig 8 n 0, h]; simp
theorem num1_key (n : Nat) (h : n % 256 ^ 1 = n) : num8 (dig 1 n) = n := by
 unfold num8
 rw [num8_dig 1 n 0, h]; simp
def parse (l : List UInt8) : Stp := ⟨num8 (l.take 8), num8 ((l.drop 8).take 1), (l.drop 9).take (l.length - 19), num8 ((l.drop (l.length - 9)).take 8), num8 (l.drop (l.length - 1))⟩
theorem key_length (s : Stp) : s.key.length = s.label.length + 19 := by
 unfold Stp.key
 simp [dig_length]
 omega
theorem parse_key {s : Stp} (hs : s.ok = true) : parse s.key = s := by
 obtain ⟨a1, a2, a3, a4, _⟩ := ok_bounds hs
 have hl := key_length s
 have e0 : s.key.length - 19 = s.label.length := by omega
 have e9 : s.key.length - 9 = 8 + (1 + (s.label.length + 1)) := by omega
 have e1 : s.key.length - 1 = 8 + (1 + (s.label.length + 1 + 8)) := by omega
 unfold parse
 rw [e0, e9, e1]
 have k1 : s.key.take 8 = dig 8 s.gen := by
  unfold Stp.key
  exact List.take_left' (dig_length 8 _)
 have d8 : s.key.drop 8 = dig 1 s.repo ++ (s.label ++ 0 :: (dig 8 s.num ++ dig 1 s.idx)) := by
  unfold Stp.key
  exact List.drop_left' (dig_length 8 _)
 have d9 : s.key.drop 9 = s.label ++ 0 :: (dig 8 s.num ++ dig 1 s.idx) := by
  rw [show 9 = 8 + 1 from rfl, ← List.drop_drop, d8]
  exact List.drop_left' (dig_length 1 _)
 have dl : s.key.drop (8 + (1 + (s.label.length + 1))) = dig 8 s.num ++ dig 1 s.idx := by
  rw [← List.drop_drop, d8, ← List.drop_drop, List.drop_left' (dig_length 1 _), show s.label ++ 0 :: (dig 8 s.num ++ dig 1 s.idx) = (s.label ++ [0]) ++ (dig 8 s.num ++ dig 1 s.idx) by simp]
  exact List.drop_left' (by simp)
 have dx : s.key.drop (8 + (1 + (s.label.length + 1 + 8))) = dig 1 s.idx := by
  rw [show 8 + (1 + (s.label.length + 1 + 8)) = 8 + (1 + (s.label.length + 1)) + 8 by omega, ← List.drop_drop, dl]
  exact List.drop_left' (dig_length 8 _)
 rw [k1, d8, d9, dl, dx, List.take_left' (dig_length 1 _), List.take_left' rfl, List.take_left' (dig_length 8 _), num8_key _ a1, num1_key _ a2, num8_key _ a3, num1_key _ a4]
def okKey (l : List UInt8) : Bool := decide (19 ≤ l.length) && (parse l).ok && decide ((parse l).key = l)
theorem okKey_iff {l : List UInt8} : okKey l = true ↔ ∃ s : Stp, s.ok = true ∧ s.key = l := by
 unfold okKey
 simp only [Bool.and_eq_true, decide_eq_true_eq]
 constructor
 · rintro ⟨⟨_, h1⟩, h2⟩
   exact ⟨parse l, h1, h2⟩
 · rintro ⟨s, h1, rfl⟩
   rw [parse_key h1, key_length]
   exact ⟨⟨by omega, h1⟩, rfl⟩
end St
end Go.Proofs.YtjlliohjeiclaaaGreatDoor
namespace Go.Proofs.YtjlliohjeiclaaaGreatDoor
namespace St
open Pm
abbrev El := Stp × ByteArray
def keyB (s : Stp) : ByteArray := ⟨s.key.toArray⟩
theorem keyB_klt {s t : Stp} (hs : s.ok = true) (ht : t.ok = true) : klt (keyB s) (keyB t) = s.lt t := by
 rw [← key_lt hs ht]
 unfold klt keyB
 rw [ByteArray.toList_eq, ByteArray.toList_eq]
theorem lt_irrefl {s : Stp} (hs : s.ok = true) : s.lt s = false := by rw [← keyB_klt hs hs]; exact klt_irrefl _
theorem lt_trans {s t u : Stp} (hs : s.ok = true) (ht : t.ok = true) (hu : u.ok = true) (h : s.lt t = true) (k : t.lt u = true) : s.lt u = true := by
 rw [← keyB_klt hs ht] at h
 rw [← keyB_klt ht hu] at k
 rw [← keyB_klt hs hu]
 exact klt_trans h k
def enc (e : El) : ByteArray × ByteArray := (keyB e.1, e.2)
def okE (e : El) : Bool := e.1.ok && decide (e.2.size ≤ 256)
end St
end Go.Proofs.YtjlliohjeiclaaaGreatDoor
namespace Go.Proofs.YtjlliohjeiclaaaGreatDoor
namespace St
open Pm
structure Sv where
 g : Int
 r : Int
 l : ByteArray
 n : Int
 i : Int
deriving DecidableEq
def okBr (r : Int) (l : ByteArray) : Bool := decide (0 ≤ r) && decide (r < 8) && okLabel l.data.toList
def okNm (r : Int) (l : ByteArray) (n : Int) : Bool := okBr r l && decide (1 ≤ n) && decide (n ≤ 4611686018427387904)
def Sv.ok (s : Sv) : Bool := decide (1 ≤ s.g) && decide (s.g ≤ 4611686018427387904) && okNm s.r s.l s.n && decide (0 ≤ s.i) && decide (s.i < 64)
def Sv.st (s : Sv) : Stp := ⟨s.g.toNat, s.r.toNat, s.l.data.toList, s.n.toNat, s.i.toNat⟩
def Stp.sv (s : Stp) : Sv := ⟨s.gen, s.repo, ⟨s.label.toArray⟩, s.num, s.idx⟩
theorem Sv.ok_iff {s : Sv} : s.ok = true ↔ 1 ≤ s.g ∧ s.g ≤ 4611686018427387904 ∧ 0 ≤ s.r ∧ s.r < 8 ∧ okLabel s.l.data.toList = true ∧ 1 ≤ s.n ∧ s.n ≤ 4611686018427387904 ∧ 0 ≤ s.i ∧ s.i < 64 := by
 unfold Sv.ok okNm okBr
 simp only [Bool.and_eq_true, decide_eq_true_eq, and_assoc]
theorem Stp.ok_iff {s : Stp} : s.ok = true ↔ 1 ≤ s.gen ∧ s.gen ≤ 4611686018427387904 ∧ s.repo < 8 ∧ okLabel s.label = true ∧ 1 ≤ s.num ∧ s.num ≤ 4611686018427387904 ∧ s.idx < 64 := by
 unfold Stp.ok
 simp only [Bool.and_eq_true, decide_eq_true_eq, and_assoc]
 try rw [show (2 : Nat) ^ 62 = 4611686018427387904 by decide]
theorem Sv.ok_st {s : Sv} (h : s.ok = true) : s.st.ok = true ∧ s.st.sv = s := by
 obtain ⟨h1, h2, h3, h4, h5, h6, h7, h8, h9⟩ := Sv.ok_iff.1 h
 refine ⟨Stp.ok_iff.2 ⟨?_, ?_, ?_, h5, ?_, ?_, ?_⟩, ?_⟩
 · show 1 ≤ s.g.toNat; omega
 · show s.g.toNat ≤ _; omega
 · show s.r.toNat < 8; omega
 · show 1 ≤ s.n.toNat; omega
 · show s.n.toNat ≤ _; omega
 · show s.i.toNat < 64; omega
 · obtain ⟨g, r, l, n, i⟩ := s
   simp only [Sv.st, Stp.sv, Sv.mk.injEq] at *
   exact ⟨by omega, by omega, by trivial, by omega, by omega⟩
theorem Stp.ok_sv {s : Stp} (h : s.ok = true) : s.sv.ok = true ∧ s.sv.st = s := by
 obtain ⟨h1, h2, h3, h4, h5, h6, h7⟩ := Stp.ok_iff.1 h
 refine ⟨Sv.ok_iff.2 ⟨?_, ?_, ?_, ?_, by simpa [Stp.sv] using h4, ?_, ?_, ?_, ?_⟩, ?_⟩
 · show (1 : Int) ≤ (s.gen : Int); omega
 · show (s.gen : Int) ≤ _; omega
 · show (0 : Int) ≤ (s.repo : Int); omega
 · show (s.repo : Int) < 8; omega
 · show (1 : Int) ≤ (s.num : Int); omega
 · show (s.num : Int) ≤ _; omega
 · show (0 : Int) ≤ (s.idx : Int); omega
 · show (s.idx : Int) < 64; omega
 · cases s; simp [Stp.sv, Sv.st]
end St
end Go.Proofs.YtjlliohjeiclaaaGreatDoor
namespace Go.Proofs.YtjlliohjeiclaaaGreatDoor
open Go.RowKit
theorem bvs_get (l : List UInt8) (i : Nat) (h : i < l.length) : (bvs l)[i]? = some (.int .u8 (l[i].toNat : Int)) := by simp [bvs, h]
theorem bvs_set (l : List UInt8) (i : Nat) (c : UInt8) : (bvs l).set i (.int .u8 (c.toNat : Int)) = bvs (l.set i c) := by simp [bvs, List.map_set]
theorem own_byte {w : World} {base n g cap : Nat} {e : TypeId} {l : List UInt8} (h : w.ownsRow base e 1 (.slice (some ⟨g, 0, none⟩) n cap) n (bvs l)) (i : Nat) (hi : i < l.length) :
 w.cell? ⟨g, i, none⟩ = some (.int .u8 (l[i].toNat : Int)) ∧ w.frozen? ⟨g, i, none⟩ = false := by
 obtain ⟨g', hg, _, hc, hf, _⟩ := own_cell h i _ (bvs_get l i hi)
 cases hg
 exact ⟨hc, hf i⟩
theorem own_put {w : World} {base n g cap : Nat} {e : TypeId} {l : List UInt8} (h : w.ownsRow base e 1 (.slice (some ⟨g, 0, none⟩) n cap) n (bvs l)) (i : Nat) (c : UInt8) (u : Int) (hu : u = (c.toNat : Int)) :
 (w.setCell ⟨g, i, none⟩ (.int .u8 u)).ownsRow base e 1 (.slice (some ⟨g, 0, none⟩) n cap) n (bvs (l.set i c)) := by
 subst hu
 rw [← bvs_set]; exact own_set h i _
theorem BytesAt.fresh (w : World) (t : TypeId) (fr : Nat × Nat) (l : List UInt8) (vs : List Value) (h : vs = l.map fun c => Value.int .u8 (c.toNat : Int)) :
 BytesAt (w.alloc (.cells vs.toArray t fr)) (some ⟨w.heap.size, 0, none⟩) l := by
 intro i hi
 refine ⟨w.heap.size, 0, rfl, ?_⟩
 rw [Nat.zero_add, cell_new, h]
 simp [hi]
theorem src_one {P : Program} {tx e' : TypeId} (hk : P.underlying tx = some (.slice e')) (w : World) (t : TypeId) (c : UInt8) (u : Int) (hu : u = (c.toNat : Int)) :
 Src P 1 tx (.slice (some ⟨w.heap.size, 0, none⟩) 1 1) 1 (bvs [c]) (w.alloc (.cells #[.int .u8 u] t)) := by
 subst hu
 exact (BytesAt.fresh w t (0, 0) [c] [_] rfl).src hk 1
def ElemT (P : Program) (t e : TypeId) (z : Value) (size bytes : Nat) : Prop :=
 P.underlying t = some (.slice e) ∧ ∃ i, P.info? e = some i ∧ i.zero = some z ∧ i.size = size ∧ i.bytes = bytes ∧ z.cells.size = size
theorem ElemT.mk {P : Program} {t e : TypeId} {z : Value} {size bytes : Nat} (ht : P.underlying t = some (.slice e)) (h : (P.info? e).map (fun i => (i.zero, i.size, i.bytes)) = some (some z, size, bytes)) (hz : z.cells.size = size) : ElemT P t e z size bytes := by
 obtain ⟨i, h1, h2, h3, h4⟩ := info_parts h
 exact ⟨ht, i, h1, h2, h3, h4, hz⟩
theorem below_of_grown {w w' : World} {base size n : Nat} {e : TypeId} {v : Value} {xs : List Value} (hown : w.ownsRow base e size v n xs) (hb : base ≤ w.heap.size) (hg : w.grownBy w' v.ownBlock) : Below base w w' :=
 (Below.refl _ _).grown hg hb fun k hk => (hown.lt k hk).1
theorem wpList_app {P : Program} {w : World} {ops : Array Oper} {rest : List Oper} {o : Oper} {a : Act} {Q : Exit → Act → World → Prop} (hgd : o.guard = none) (s x : Operand) (t tx : TypeId)
 (ho : o.op = .call { callee := .builtin .append, args := #[s, x], argTypes := #[t, tx] })
 (base : Nat) (e : TypeId) (z : Value) (size bytes : Nat) (ht : ElemT P t e z size bytes)
 (v : Value) (n : Nat) (xs : List Value) (hv : a.eval s = v) (hown : w.ownsRow base e size v n xs)
 (xv : Value) (m : Nat) (news : List Value) (hx : a.eval x = xv) (hs : Src P size tx xv m news w)
 (h63 : n + m ≤ 4611686018427387904) (hbytes : (n + m) * bytes ≤ 140737488355328) (hbase : base ≤ w.heap.size)
 (h : ∀ v' w', w'.ownsRow base e size v' (n + m) (xs ++ news) → w.grownBy w' v.ownBlock → Below base w w' → (v'.ownBlock = v.ownBlock ∨ v'.ownBlock = some w.heap.size) → wpList P ops Q rest (a.put o.dst v') w') : wpList P ops Q (o :: rest) a w := by
 obtain ⟨h1, i, h2, h3, h4, h5, h6⟩ := ht
 exact wpList_append_src w hgd s x t tx ho base e i z size bytes h1 h2 h3 h4 h5 h6 v n xs hv hown xv m news hx hs (by unfold maxLen; omega) hbytes hbase
  fun v' w' g1 g2 g3 => h v' w' g1 g2 (below_of_grown hown hbase g2) g3
theorem wpList_appb {P : Program} {w : World} {ops : Array Oper} {rest : List Oper} {o : Oper} {a : Act} {Q : Exit → Act → World → Prop} (hgd : o.guard = none) (s x : Operand) (t tx : TypeId)
 (ho : o.op = .call { callee := .builtin .append, args := #[s, x], argTypes := #[t, tx] })
 (base : Nat) (e : TypeId) (ht : ElemT P t e (.int .u8 0) 1 1)
 (v : Value) (l : List UInt8) (hv : a.eval s = v) (hown : w.ownsRow base e 1 v l.length (bvs l))
 (xv : Value) (m : List UInt8) (hx : a.eval x = xv) (hs : Src P 1 tx xv m.length (bvs m) w)
 (hlen : l.length + m.length ≤ 70368744177664) (hbase : base ≤ w.heap.size)
 (h : ∀ v' w', w'.ownsRow base e 1 v' (l ++ m).length (bvs (l ++ m)) → w.grownBy w' v.ownBlock → Below base w w' → (v'.ownBlock = v.ownBlock ∨ v'.ownBlock = some w.heap.size) → wpList P ops Q rest (a.put o.dst v') w') : wpList P ops Q (o :: rest) a w :=
 wpList_app hgd s x t tx ho base e (.int .u8 0) 1 1 ht v l.length (bvs l) hv hown xv m.length (bvs m) hx hs (by omega) (by omega) hbase
  fun v' w' g1 g2 g3 g4 => h v' w' (by rw [List.length_append, bvs_append]; exact g1) g2 g3 g4
theorem step_appb {P : Program} {w : World} {ops : Array Oper} {o : Oper} {a : Act} {K : Act → World → Prop} {Q : Exit → Act → World → Prop} {E : Prop} (hgd : o.guard = none) (s x : Operand) (t tx : TypeId)
 (ho : o.op = .call { callee := .builtin .append, args := #[s, x], argTypes := #[t, tx] })
 (base : Nat) (e : TypeId) (ht : ElemT P t e (.int .u8 0) 1 1)
 (v : Value) (l : List UInt8) (hv : a.eval s = v) (hown : w.ownsRow base e 1 v l.length (bvs l))
 (xv : Value) (m : List UInt8) (hx : a.eval x = xv) (hs : Src P 1 tx xv m.length (bvs m) w)
 (hlen : l.length + m.length ≤ 70368744177664) (hbase : base ≤ w.heap.size)
 (h : ∀ v' w', w'.ownsRow base e 1 v' (l ++ m).length (bvs (l ++ m)) → w.grownBy w' v.ownBlock → Below base w w' → (v'.ownBlock = v.ownBlock ∨ v'.ownBlock = some w.heap.size) → K (a.put o.dst v') w') :
 if Region.wanted o (yielded ops a.tmps) = true then Oper.wp P o a w K Q else E := by
 have hw : Region.wanted o (yielded ops a.tmps) = true := by simp [Region.wanted, hgd]
 rw [if_pos hw]
 obtain ⟨h1, i, h2, h3, h4, h5, h6⟩ := ht
 obtain ⟨v', w', hr, g2, g3, g4, _⟩ := run_append_own_src (P := P) w base t tx o.type e i (.int .u8 0) 1 1 h1 h2 h3 h4 h5 h6 v l.length (bvs l) hown xv m.length (bvs m) hs (by unfold maxLen; omega) (by omega) hbase
 unfold Oper.wp execOp
 simp only [ho, resolve, invoke, builtin, Sem.run_bind, Sem.run_pure, Result.andThen_ok, List.map_toArray, List.map_cons, List.map_nil, hv, hx, hr]
 exact h v' w' (by rw [List.length_append, bvs_append]; exact g2) g3 (below_of_grown hown hbase g3) g4
theorem wpList_mkn {P : Program} {w : World} {ops : Array Oper} {rest : List Oper} {o : Oper} {a : Act} {Q : Exit → Act → World → Prop} (hg : o.guard = none) (l c : Operand) (t : TypeId) (hop : o.op = Op.makeSlice t l c)
 (e : TypeId) (z : Value) (size bytes : Nat) (ht : ElemT P t e z size bytes) (kl kc : IntKind) (L C : Int) (n : Nat) (hl : a.eval l = .int kl L) (hc : a.eval c = .int kc C) (hL : L = (n : Int)) (hC : C = (n : Int)) (b2 : bytes * n ≤ 281474976710656) (b3 : n ≤ 4611686018427387904)
 (hK : ∀ w', w'.ownsRow w.heap.size e size (.slice (some ⟨w.heap.size, 0, none⟩) n n) n (madeCells z.cells (n * size)).toList → Below w.heap.size w w' → wpList P ops Q rest (a.put o.dst (.slice (some ⟨w.heap.size, 0, none⟩) n n)) w') :
 wpList P ops Q (o :: rest) a w := by
 obtain ⟨h1, i, h2, h3, h4, h5, _⟩ := ht
 exact wpList_make_full w hg l c t hop w.heap.size e i z size h1 h2 h3 h4 kl kc L C n hl hc hL hC (by rw [h5]; exact b2) (by unfold maxLen; omega) (Nat.le_refl _)
  fun w' g1 g2 => hK w' g1 ((Below.refl _ _).grown g2 (Nat.le_refl _) (fun k h => by cases h))
end Go.Proofs.YtjlliohjeiclaaaGreatDoor
namespace Go.Proofs.YtjlliohjeiclaaaGreatDoor
open Go.RowKit
section
variable {P : Program} {ops : Array Oper} {Q : Exit → Act → World → Prop} {md : Region.Mode} {S S' : World → Prop}
theorem wpAnyH_stronger (h : ∀ w, S' w → S w) : ∀ (fuel : Nat) (listed : Array Bool) (a : Act) (w : World), wpAnyH P md ops Q S' fuel listed a w → wpAnyH P md ops Q S fuel listed a w
 | 0, _, _, _, H => H
 | fuel + 1, _, _, _, H => ⟨H.1, fun i hi => wpOp_mono (fun a' w' h' => ⟨h _ h'.1, wpAnyH_stronger h fuel _ a' w' h'.2⟩) (H.2 i hi)⟩
theorem wpAnyH_now {W w1 : World} (hb : Below W.heap.size W w1) {fuel : Nat} {listed : Array Bool} {a : Act}
 (h : wpAnyH P md ops Q (fun w' => Below w1.heap.size w1 w') fuel listed a w1) : wpAnyH P md ops Q (fun w' => Below W.heap.size W w') fuel listed a w1 :=
 wpAnyH_stronger (fun _ h' => hb.trans (h'.mono hb.size)) _ _ _ _ h
theorem wpAnyH_madeK {W w1 : World} {o : Obj} {B : Nat} (hS : Below B W w1) (hB : B ≤ w1.heap.size) {fuel : Nat} {listed : Array Bool} {a : Act}
 (h : ∀ w2, w2 = w1.alloc o → Below B W w2 → wpAnyH P md ops Q (fun w' => Below B W w') fuel listed a w2) : wpAnyH P md ops Q (fun w' => Below B W w') fuel listed a (w1.alloc o) :=
 h _ rfl (hS.alloc hB o)
end
end Go.Proofs.YtjlliohjeiclaaaGreatDoor
namespace Go.Proofs.YtjlliohjeiclaaaGreatDoor
open Go.RowKit St
theorem conv_to_bytes {P : Program} (w : World) (src dst e : TypeId) (s : ByteArray) (hs : P.underlying src = some .string) (hd : P.underlying dst = some (.slice e)) (he : P.underlying e = some (.int .u8)) :
 ∃ cap w', (convert src dst (.string s)).run P w = .ok (.slice (some ⟨w.heap.size, 0, none⟩) s.size cap) w' ∧ BytesAt w' (some ⟨w.heap.size, 0, none⟩) s.data.toList ∧ Below w.heap.size w w' ∧ w'.heap.size = w.heap.size + 1 := by
 refine ⟨_, _, Go.Lib.run_convert_string_bytes w src dst e s hs hd he, fun i hi => ⟨_, 0, rfl, ?_⟩, ?_, Go.Lib.bytesWorld_size w e s⟩
 · rw [Nat.zero_add, Go.Lib.bytesWorld_cell w e s i (by simpa using hi)]
   rw [List.getD_eq_getElem?_getD, List.getElem?_eq_getElem hi]
   rfl
 · exact ⟨rfl, rfl, rfl, by rw [Go.Lib.bytesWorld_size]; omega, fun k hk => Go.Lib.bytesWorld_at_old w e s k hk⟩
def okByte (c : UInt8) : Bool := decide (97 ≤ c.toNat) && decide (c.toNat ≤ 122)
theorem okLabel_all (l : List UInt8) : okLabel l = (l.all okByte && (decide (1 ≤ l.length) && decide (l.length ≤ 12))) := by
 unfold okLabel okByte
 rw [Bool.and_assoc]
theorem all_bad {l : List UInt8} {k : Nat} (h : k < l.length) (hb : okByte l[k] = false) : okLabel l = false := by
 rw [okLabel_all]
 have : l.all okByte = false := by
  rw [List.all_eq_false]
  exact ⟨l[k], List.getElem_mem h, by simp [hb]⟩
 rw [this]; rfl
theorem all_step {l : List UInt8} {k : Nat} (h : k < l.length) (ha : (l.take k).all okByte = true) (hb : okByte l[k] = true) : (l.take (k + 1)).all okByte = true := by
 rw [List.take_succ_eq_append_getElem h, List.all_append, ha]
 simp [hb]
theorem all_end {l : List UInt8} (ha : (l.take l.length).all okByte = true) : okLabel l = (decide (1 ≤ l.length) && decide (l.length ≤ 12)) := by
 rw [List.take_length] at ha
 rw [okLabel_all, ha]; rfl
theorem dlen (s : ByteArray) : s.data.toList.length = s.size := by simp
set_option maxHeartbeats 1000000 in
theorem key_Label (s : ByteArray) (w : World) (hs : s.size ≤ 9223372036854775807) : Calls Tryz.prog 188 #[.string s] w fun e w' => e = .returned (.bool (okLabel s.data.toList)) ∧ Below w.heap.size w w' := by
 obtain ⟨cap, w1, hcv, hby, hb, hz⟩ := conv_to_bytes (P := Tryz.prog) w 9 113 5 s Tryz.underlying9 Tryz.underlying113 Tryz.underlying5
 obtain ⟨l, hl⟩ : ∃ l, s.data.toList = l := ⟨_, rfl⟩
 have hn : l.length = s.size := by rw [← hl]; exact dlen s
 rw [hl] at hby ⊢
 have HB := Lib.hid hb
 have HY := Lib.hid hby
 have HN := Lib.hid hn
 clear hb hby hz
 go_enter Tryz.func188, Tryz.ntmps188
 go_wp2
 clear hcv
 go_loop [8] (fun i => ∃ k : Nat, k ≤ s.size ∧ i = .int .i64 (k : Int) ∧ Hid ((l.take k).all okByte = true)) (fun i => s.size - (intOf i).toNat)
 case atStart => exact ⟨0, Nat.zero_le _, rfl, Lib.hid rfl⟩
 case round =>
  obtain ⟨k, hk, rfl, HA⟩ := hrel
  by_cases hlt : k < s.size
  · have hkl : k < l.length := by omega
    have hc := (HY.out k hkl)
    obtain ⟨b, off, he, hc⟩ := hc
    cases he
    rw [Nat.zero_add] at hc
    have hbt := l[k].toNat_lt
    have F1 := Lib.hid (fun h => all_bad hkl h)
    have F2 := Lib.hid (fun h => all_step hkl HA.out h)
    generalize hcc : l[k] = c at *
    have F3 : Hid (okByte c = (decide (97 ≤ c.toNat) && decide (c.toNat ≤ 122))) := Lib.hid rfl
    clear hcc hkl HA
    by_cases h1 : c.toNat < 97
    · go_wp2
      go_ret
      rw [F1.out (by rw [F3.out, decide_eq_false (by omega)]; rfl)]
      exact ⟨rfl, HB.out⟩
    · by_cases h2 : 122 < c.toNat
      · go_wp2
        go_ret
        rw [F1.out (by rw [F3.out, decide_eq_false (show ¬ c.toNat ≤ 122 by omega)]; simp)]
        exact ⟨rfl, HB.out⟩
      · have H := F2.out (by rw [F3.out, decide_eq_true (show 97 ≤ c.toNat by omega), decide_eq_true (show c.toNat ≤ 122 by omega)]; rfl)
        have H := Lib.hid H
        go_wp2
        refine ⟨⟨k + 1, by omega, by go_num, H⟩, by simp [intOf]; omega⟩
  · obtain rfl : k = s.size := by omega
    have E : Hid (okLabel l = (decide (1 ≤ s.size) && decide (s.size ≤ 12))) := Lib.hid (by rw [← hn]; exact all_end (by rw [hn]; exact HA.out))
    clear HA
    by_cases h1 : 1 ≤ s.size
    · go_wp2
      go_ret
      rw [E.out, decide_eq_true h1]
      exact ⟨congrArg (fun b => Ending.returned (.bool b)) (by simp; omega), HB.out⟩
    · go_wp2
      go_ret
      rw [E.out, decide_eq_false h1]
      exact ⟨rfl, HB.out⟩
set_option maxHeartbeats 1000000 in
theorem ref5_Label (s : ByteArray) (w : World) (hs : s.size ≤ 9223372036854775807) : Calls Tryz.prog 177 #[.string s] w fun e w' => e = .returned (.bool (okLabel s.data.toList)) ∧ w = w' := by
 obtain ⟨l, hl⟩ : ∃ l, s.data.toList = l := ⟨_, rfl⟩
 have hn : l.length = s.size := by rw [← hl]; exact dlen s
 have HL := Lib.hid hl
 rw [hl]
 clear hl
 go_enter Tryz.func177, Tryz.ntmps177
 go_wp2
 go_loop [3] (fun i => ∃ k : Nat, k ≤ s.size ∧ i = .int .i64 (k : Int) ∧ Hid ((l.take k).all okByte = true)) (fun i => s.size - (intOf i).toNat)
 case atStart => exact ⟨0, Nat.zero_le _, rfl, Lib.hid rfl⟩
 case round =>
  obtain ⟨k, hk, rfl, HA⟩ := hrel
  by_cases hlt : k < s.size
  · have hkl : k < l.length := by omega
    have hc : s[k] = l[k] := by
     have := HL.out
     subst this
     rfl
    have hbt := l[k].toNat_lt
    have F1 := Lib.hid (fun h => all_bad hkl h)
    have F2 := Lib.hid (fun h => all_step hkl HA.out h)
    generalize hcc : l[k] = c at *
    have F3 : Hid (okByte c = (decide (97 ≤ c.toNat) && decide (c.toNat ≤ 122))) := Lib.hid rfl
    clear hcc hkl HA
    by_cases h1 : c.toNat < 97
    · go_wp2
      go_ret
      rw [F1.out (by rw [F3.out, decide_eq_false (by omega)]; rfl)]
      exact ⟨rfl, rfl⟩
    · by_cases h2 : 122 < c.toNat
      · go_wp2
        go_ret
        rw [F1.out (by rw [F3.out, decide_eq_false (show ¬ c.toNat ≤ 122 by omega)]; simp)]
        exact ⟨rfl, rfl⟩
      · have H := F2.out (by rw [F3.out, decide_eq_true (show 97 ≤ c.toNat by omega), decide_eq_true (show c.toNat ≤ 122 by omega)]; rfl)
        have H := Lib.hid H
        go_wp2
        refine ⟨⟨k + 1, by omega, by go_num, H⟩, by simp [intOf]; omega⟩
  · obtain rfl : k = s.size := by omega
    have E : Hid (okLabel l = (decide (1 ≤ s.size) && decide (s.size ≤ 12))) := Lib.hid (by rw [← hn]; exact all_end (by rw [hn]; exact HA.out))
    clear HA
    by_cases h1 : 1 ≤ s.size
    · go_wp2
      go_ret
      rw [E.out, decide_eq_true h1]
      exact ⟨congrArg (fun b => Ending.returned (.bool b)) (by simp; omega), rfl⟩
    · go_wp2
      go_ret
      rw [E.out, decide_eq_false h1]
      exact ⟨rfl, rfl⟩
theorem ref5_Text (s : ByteArray) (w : World) : Calls Tryz.prog 48 #[.string s] w fun e w' => e = .returned (.bool (decide (s.size ≤ 256))) ∧ w = w' := by
 go_enter Tryz.func48, Tryz.ntmps48
 go_wp2
 go_ret
 exact ⟨congrArg (fun b => Ending.returned (.bool b)) (by simp; omega), rfl⟩
end Go.Proofs.YtjlliohjeiclaaaGreatDoor
namespace Go.Proofs.YtjlliohjeiclaaaGreatDoor
open Go.RowKit
def Chain (ws : List World) (w : World) : Prop := ∀ W ∈ ws, Below W.heap.size W w
theorem Chain.one (w : World) : Chain [w] w := fun W hW => by
 obtain rfl := List.mem_singleton.1 hW
 exact Below.refl _ _
theorem Chain.push {ws : List World} {w w' : World} (h : Chain ws w) (hb : Below w.heap.size w w') : Chain (w' :: ws) w' := fun W hW => by
 rcases List.mem_cons.1 hW with rfl | hW
 · exact Below.refl _ _
 · exact (h W hW).trans (hb.mono (h W hW).size)
theorem Chain.only {ws : List World} {w w' : World} {g : Nat} (h : Chain ws w) (hg : w.grownBy w' (some g)) (hl : ∀ W ∈ ws, W.heap.size ≤ g) (_hlt : g < w.heap.size) : Chain ws w' := fun W hW =>
 (h W hW).trans ⟨hg.os, hg.tape, hg.output, hg.size, fun k hk => hg.block k (by have := (h W hW).size; omega) (fun e => by cases e; have := hl W hW; omega)⟩
theorem Chain.drop {W : World} {ws : List World} {w : World} (h : Chain (W :: ws) w) : Chain ws w := fun V hV => h V (List.mem_cons_of_mem _ hV)
theorem Chain.to {ws : List World} {w : World} (h : Chain ws w) (W : World) (hW : W ∈ ws) : Below W.heap.size W w := h W hW
theorem boxStays {W w' : World} {g : Nat} {o : Obj} (h : W.heap[g]? = some o) (hB : Below W.heap.size W w') : w'.heap[g]? = some o :=
 (hB.block g (Array.getElem?_eq_some_iff.1 h).1).trans h
theorem BytesAt.get {w : World} {l : List UInt8} {a : Option Addr} {i : Nat} (h : BytesAt w a l) (hi : i < l.length) : ∃ ad, a = some ad ∧ w.cell? (ad.add i) = some (.int .u8 (l[i].toNat : Int)) := by
 obtain ⟨b, off, rfl, hc⟩ := h i hi
 exact ⟨_, rfl, by rw [Addr.add_lit]; exact hc⟩
theorem BytesAt.take {w : World} {a : Option Addr} {l : List UInt8} (h : BytesAt w a l) (k : Nat) : BytesAt w a (l.take k) := by
 intro i hi
 have hi' : i < l.length := by simp at hi; omega
 obtain ⟨b, off, e, hc⟩ := h i hi'
 exact ⟨b, off, e, by simpa using hc⟩
end Go.Proofs.YtjlliohjeiclaaaGreatDoor
namespace Go.Proofs.YtjlliohjeiclaaaGreatDoor
open Go.RowKit St
open Go.Op (bytesLess)
theorem stp_Branch (r : Int) (l : ByteArray) (w : World) (hs : l.size ≤ 9223372036854775807) : Calls Tryz.prog 156 #[.agg #[.int .i64 r, .string l]] w fun e w' => e = .returned (.bool (okBr r l)) ∧ Below w.heap.size w w' := by
 have HV : Hid (okBr r l = (decide (0 ≤ r) && decide (r < 8) && okLabel l.data.toList)) := Lib.hid rfl
 go_enter Tryz.func156, Tryz.ntmps156
 by_cases h1 : 0 ≤ r
 · by_cases h2 : r < 8
   · go_wp2_with fail
     refine (key_Label l _ hs).mono ?_
     rintro e w' ⟨rfl, hb⟩
     go_wp2_with fail
     go_ret
     rw [HV.out, decide_eq_true (show 0 ≤ r by omega), decide_eq_true (show r < 8 by omega)]
     exact ⟨rfl, (below_new w _).trans (hb.mono (by simp))⟩
   · go_wp2_with fail
     go_ret
     rw [HV.out, decide_eq_true (show 0 ≤ r by omega), decide_eq_false (show ¬ (r < 8) by omega)]
     exact ⟨rfl, below_new _ _⟩
 · go_wp2_with fail
   go_ret
   rw [HV.out, decide_eq_false (show ¬ (0 ≤ r) by omega)]
   exact ⟨rfl, below_new _ _⟩
theorem stp_Name (r : Int) (l : ByteArray) (n : Int) (w : World) (hs : l.size ≤ 9223372036854775807) : Calls Tryz.prog 122 #[.agg #[.int .i64 r, .string l, .int .i64 n]] w fun e w' => e = .returned (.bool (okNm r l n)) ∧ Below w.heap.size w w' := by
 have HV : Hid (okNm r l n = (okBr r l && decide (1 ≤ n) && decide (n ≤ 4611686018427387904))) := Lib.hid rfl
 go_enter Tryz.func122, Tryz.ntmps122
 go_wp2_with fail
 refine (stp_Branch r l _ hs).mono ?_
 rintro e w' ⟨rfl, hb⟩
 have HB : Hid (Below w.heap.size w w') := Lib.hid ((below_new w _).trans (hb.mono (by simp)))
 have k0 := cell_of_row _ _ 2 _ _ _ (boxStays (heap_alloc_new w (.cells #[.int .i64 r, .string l, .int .i64 n] 41)) hb)
 clear hb
 generalize okBr r l = q at *
 cases q with
 | false =>
  go_wp2_with fail
  go_ret
  rw [HV.out]
  exact ⟨rfl, HB.out⟩
 | true =>
  by_cases h1 : 1 ≤ n
  · by_cases h2 : n ≤ 4611686018427387904
    · go_wp2_with fail
      go_ret
      rw [HV.out, decide_eq_true (show 1 ≤ n by omega), decide_eq_true (show n ≤ 4611686018427387904 by omega)]
      exact ⟨rfl, HB.out⟩
    · go_wp2_with fail
      go_ret
      rw [HV.out, decide_eq_true (show 1 ≤ n by omega), decide_eq_false (show ¬ (n ≤ 4611686018427387904) by omega)]
      exact ⟨rfl, HB.out⟩
  · go_wp2_with fail
    go_ret
    rw [HV.out, decide_eq_false (show ¬ (1 ≤ n) by omega)]
    exact ⟨rfl, HB.out⟩
theorem stp_Stamp (s : Sv) (w : World) (hs : s.l.size ≤ 9223372036854775807) : Calls Tryz.prog 77 #[.agg #[.int .i64 s.g, .int .i64 s.r, .string s.l, .int .i64 s.n, .int .i64 s.i]] w fun e w' => e = .returned (.bool s.ok) ∧ Below w.heap.size w w' := by
 have HV : Hid (s.ok = (decide (1 ≤ s.g) && decide (s.g ≤ 4611686018427387904) && okNm s.r s.l s.n && decide (0 ≤ s.i) && decide (s.i < 64))) := Lib.hid rfl
 obtain ⟨g, r, l, n, i⟩ := s
 simp only at hs HV ⊢
 generalize Sv.ok ⟨g, r, l, n, i⟩ = ok at *
 go_enter Tryz.func77, Tryz.ntmps77
 by_cases h1 : 1 ≤ g
 · by_cases h2 : g ≤ 4611686018427387904
   · go_wp2_with fail
     refine (stp_Name r l n _ hs).mono ?_
     rintro e w' ⟨rfl, hb⟩
     have HB : Hid (Below w.heap.size w w') := Lib.hid ((below_new w _).trans (hb.mono (by simp)))
     have k0 := cell_of_row _ _ 4 _ _ _ (boxStays (heap_alloc_new w (.cells #[.int .i64 g, .int .i64 r, .string l, .int .i64 n, .int .i64 i] 43)) hb)
     clear hb
     generalize okNm r l n = q at *
     cases q with
     | false =>
      go_wp2_with fail
      go_ret
      rw [HV.out, decide_eq_true (show 1 ≤ g by omega), decide_eq_true (show g ≤ 4611686018427387904 by omega)]
      exact ⟨rfl, HB.out⟩
     | true =>
      by_cases h3 : 0 ≤ i
      · by_cases h4 : i < 64
        · go_wp2_with fail
          go_ret
          rw [HV.out, decide_eq_true (show 1 ≤ g by omega), decide_eq_true (show g ≤ 4611686018427387904 by omega), decide_eq_true (show 0 ≤ i by omega), decide_eq_true (show i < 64 by omega)]
          exact ⟨rfl, HB.out⟩
        · go_wp2_with fail
          go_ret
          rw [HV.out, decide_eq_true (show 1 ≤ g by omega), decide_eq_true (show g ≤ 4611686018427387904 by omega), decide_eq_true (show 0 ≤ i by omega), decide_eq_false (show ¬ (i < 64) by omega)]
          exact ⟨rfl, HB.out⟩
      · go_wp2_with fail
        go_ret
        rw [HV.out, decide_eq_true (show 1 ≤ g by omega), decide_eq_true (show g ≤ 4611686018427387904 by omega), decide_eq_false (show ¬ (0 ≤ i) by omega)]
        exact ⟨rfl, HB.out⟩
   · go_wp2_with fail
     go_ret
     rw [HV.out, decide_eq_true (show 1 ≤ g by omega), decide_eq_false (show ¬ (g ≤ 4611686018427387904) by omega)]
     exact ⟨rfl, below_new _ _⟩
 · go_wp2_with fail
   go_ret
   rw [HV.out, decide_eq_false (show ¬ (1 ≤ g) by omega)]
   exact ⟨rfl, below_new _ _⟩
theorem ref6_Branch (r : Int) (l : ByteArray) (w : World) (hs : l.size ≤ 9223372036854775807) : Calls Tryz.prog 134 #[.agg #[.int .i64 r, .string l]] w fun e w' => e = .returned (.bool (okBr r l)) ∧ Below w.heap.size w w' := by
 have HV : Hid (okBr r l = (decide (0 ≤ r) && decide (r < 8) && okLabel l.data.toList)) := Lib.hid rfl
 go_enter Tryz.func134, Tryz.ntmps134
 by_cases h1 : 0 ≤ r
 · by_cases h2 : r < 8
   · go_wp2_with fail
     refine (ref5_Label l _ hs).mono ?_
     rintro e w' ⟨rfl, hb⟩
     go_wp2_with fail
     go_ret
     rw [HV.out, decide_eq_true (show 0 ≤ r by omega), decide_eq_true (show r < 8 by omega)]
     exact ⟨rfl, by subst hb; exact below_new w _⟩
   · go_wp2_with fail
     go_ret
     rw [HV.out, decide_eq_true (show 0 ≤ r by omega), decide_eq_false (show ¬ (r < 8) by omega)]
     exact ⟨rfl, below_new _ _⟩
 · go_wp2_with fail
   go_ret
   rw [HV.out, decide_eq_false (show ¬ (0 ≤ r) by omega)]
   exact ⟨rfl, below_new _ _⟩
theorem ref6_Name (r : Int) (l : ByteArray) (n : Int) (w : World) (hs : l.size ≤ 9223372036854775807) : Calls Tryz.prog 96 #[.agg #[.int .i64 r, .string l, .int .i64 n]] w fun e w' => e = .returned (.bool (okNm r l n)) ∧ Below w.heap.size w w' := by
 have HV : Hid (okNm r l n = (okBr r l && decide (1 ≤ n) && decide (n ≤ 4611686018427387904))) := Lib.hid rfl
 go_enter Tryz.func96, Tryz.ntmps96
 go_wp2_with fail
 refine (ref6_Branch r l _ hs).mono ?_
 rintro e w' ⟨rfl, hb⟩
 have HB : Hid (Below w.heap.size w w') := Lib.hid ((below_new w _).trans (hb.mono (by simp)))
 have k0 := cell_of_row _ _ 2 _ _ _ (boxStays (heap_alloc_new w (.cells #[.int .i64 r, .string l, .int .i64 n] 41)) hb)
 clear hb
 generalize okBr r l = q at *
 cases q with
 | false =>
  go_wp2_with fail
  go_ret
  rw [HV.out]
  exact ⟨rfl, HB.out⟩
 | true =>
  by_cases h1 : 1 ≤ n
  · by_cases h2 : n ≤ 4611686018427387904
    · go_wp2_with fail
      go_ret
      rw [HV.out, decide_eq_true (show 1 ≤ n by omega), decide_eq_true (show n ≤ 4611686018427387904 by omega)]
      exact ⟨rfl, HB.out⟩
    · go_wp2_with fail
      go_ret
      rw [HV.out, decide_eq_true (show 1 ≤ n by omega), decide_eq_false (show ¬ (n ≤ 4611686018427387904) by omega)]
      exact ⟨rfl, HB.out⟩
  · go_wp2_with fail
    go_ret
    rw [HV.out, decide_eq_false (show ¬ (1 ≤ n) by omega)]
    exact ⟨rfl, HB.out⟩
theorem ref6_Stamp (s : Sv) (w : World) (hs : s.l.size ≤ 9223372036854775807) : Calls Tryz.prog 49 #[.agg #[.int .i64 s.g, .int .i64 s.r, .string s.l, .int .i64 s.n, .int .i64 s.i]] w fun e w' => e = .returned (.bool s.ok) ∧ Below w.heap.size w w' := by
 have HV : Hid (s.ok = (decide (1 ≤ s.g) && decide (s.g ≤ 4611686018427387904) && okNm s.r s.l s.n && decide (0 ≤ s.i) && decide (s.i < 64))) := Lib.hid rfl
 obtain ⟨g, r, l, n, i⟩ := s
 simp only at hs HV ⊢
 generalize Sv.ok ⟨g, r, l, n, i⟩ = ok at *
 go_enter Tryz.func49, Tryz.ntmps49
 by_cases h1 : 1 ≤ g
 · by_cases h2 : g ≤ 4611686018427387904
   · go_wp2_with fail
     refine (ref6_Name r l n _ hs).mono ?_
     rintro e w' ⟨rfl, hb⟩
     have HB : Hid (Below w.heap.size w w') := Lib.hid ((below_new w _).trans (hb.mono (by simp)))
     have k0 := cell_of_row _ _ 4 _ _ _ (boxStays (heap_alloc_new w (.cells #[.int .i64 g, .int .i64 r, .string l, .int .i64 n, .int .i64 i] 43)) hb)
     clear hb
     generalize okNm r l n = q at *
     cases q with
     | false =>
      go_wp2_with fail
      go_ret
      rw [HV.out, decide_eq_true (show 1 ≤ g by omega), decide_eq_true (show g ≤ 4611686018427387904 by omega)]
      exact ⟨rfl, HB.out⟩
     | true =>
      by_cases h3 : 0 ≤ i
      · by_cases h4 : i < 64
        · go_wp2_with fail
          go_ret
          rw [HV.out, decide_eq_true (show 1 ≤ g by omega), decide_eq_true (show g ≤ 4611686018427387904 by omega), decide_eq_true (show 0 ≤ i by omega), decide_eq_true (show i < 64 by omega)]
          exact ⟨rfl, HB.out⟩
        · go_wp2_with fail
          go_ret
          rw [HV.out, decide_eq_true (show 1 ≤ g by omega), decide_eq_true (show g ≤ 4611686018427387904 by omega), decide_eq_true (show 0 ≤ i by omega), decide_eq_false (show ¬ (i < 64) by omega)]
          exact ⟨rfl, HB.out⟩
      · go_wp2_with fail
        go_ret
        rw [HV.out, decide_eq_true (show 1 ≤ g by omega), decide_eq_true (show g ≤ 4611686018427387904 by omega), decide_eq_false (show ¬ (0 ≤ i) by omega)]
        exact ⟨rfl, HB.out⟩
   · go_wp2_with fail
     go_ret
     rw [HV.out, decide_eq_true (show 1 ≤ g by omega), decide_eq_false (show ¬ (g ≤ 4611686018427387904) by omega)]
     exact ⟨rfl, below_new _ _⟩
 · go_wp2_with fail
   go_ret
   rw [HV.out, decide_eq_false (show ¬ (1 ≤ g) by omega)]
   exact ⟨rfl, below_new _ _⟩
end Go.Proofs.YtjlliohjeiclaaaGreatDoor
