/- Words, contracts and walks that the proof stands on (Mem Tr StP ElP SvP TrC TrW EvP ElS StO). -/
import Derived.OrdersHeld
import Derived.KernelRfl
import Derived.Deep.AppendSrc
import Derived.Deep.Draws
import Derived.Deep.Upon
import Derived.Laws.AppendOwn
import Derived.Lib.Hide
import Derived.Maps.AppendAt
import Derived.Outline
import Derived.Sort.Lot0
import Derived.Sort.Walk0
import Derived.Test.YtjlliohjeiclaaaGreatDoorRows
import Derived.WalkKit
namespace Go.Proofs.YtjlliohjeiclaaaGreatDoor
theorem zA {α : Type} (l : List α) (i : Nat) (a : α) : l.toArray.setIfInBounds i a = (l.set i a).toArray := List.setIfInBounds_toArray l i a
theorem zB {α : Type} {a b : α} {l : List α} : (a :: l).set 0 b = b :: l := rfl
theorem zC {α : Type} {a b : α} {n : Nat} {l : List α} : (a :: l).set (n + 1) b = a :: l.set n b := rfl
theorem tk {P : Program} {md : Region.Mode} {ops : Array Oper} {Q : Exit → Act → World → Prop} {S : World → Prop} {i : Nat} {oi : Oper} {v : Value} {fuel : Nat} {listed : Array Bool} {a : Act} {w : World} (hi : ops[i]? = some oi) (hy : YieldsIf P ops S oi v a) (hS : S w)
 (h : wpAnyH P md ops Q S fuel (listed.setIfInBounds i true) (a.put oi.dst v) w) (hs : Region.noSelect ops = true := by kernel_rfl) (hf : Region.free md ops listed i = true := by kernel_rfl) (hr : (Region.ready md ops listed).contains i = true := by kernel_rfl)
 (hQ : ∀ c a w, Q (.panic c) (a.put oi.dst v) w → Q (.panic c) a w := by exact fun _ _ _ h => h) : wpAnyH P md ops Q S (fuel + 1) listed a w := wpAnyH_take hi hs hf hr hQ hy hS h
end Go.Proofs.YtjlliohjeiclaaaGreatDoor
namespace Go.Proofs.YtjlliohjeiclaaaGreatDoor
open Go.RowKit
def BytesAt (w : World) (a : Option Addr) (l : List UInt8) : Prop :=
 ∀ i (h : i < l.length), ∃ b off, a = some ⟨b, off, none⟩ ∧ w.cell? ⟨b, off + i, none⟩ = some (.int .u8 (l[i].toNat : Int))
theorem BytesAt.nil (w : World) (a : Option Addr) : BytesAt w a [] := fun i h => by simp at h
theorem cell_lt {w : World} {a : Addr} {v : Value} (h : w.cell? a = some v) : a.block < w.heap.size := block_lt_of_cell h
theorem BytesAt.below {w w' : World} {a : Option Addr} {l : List UInt8} {B : Nat} (h : BytesAt w a l) (hb : Below B w w') (hB : B = w.heap.size) : BytesAt w' a l := by
 intro i hi
 obtain ⟨b, off, rfl, hc⟩ := h i hi
 have hl := cell_lt hc
 exact ⟨b, off, rfl, by rw [hb.cell (p := ⟨b, off + i, none⟩) (by simpa [hB] using hl)]; exact hc⟩
def ListsAt (w : World) (a : Option Addr) (ll : List (List UInt8)) : Prop :=
 ∀ i (h : i < ll.length), ∃ b off a' cap, a = some ⟨b, off, none⟩ ∧ w.cell? ⟨b, off + i, none⟩ = some (.slice a' ll[i].length cap) ∧ BytesAt w a' ll[i] ∧ ll[i].length ≤ 9223372036854775807
theorem ListsAt.below {w w' : World} {a : Option Addr} {ll : List (List UInt8)} {B : Nat} (h : ListsAt w a ll) (hb : Below B w w') (hB : B = w.heap.size) : ListsAt w' a ll := by
 intro i hi
 obtain ⟨b, off, a', cap, rfl, hc, hl, hm⟩ := h i hi
 have hlt := cell_lt hc
 exact ⟨b, off, a', cap, rfl, by rw [hb.cell (p := ⟨b, off + i, none⟩) (by simpa [hB] using hlt)]; exact hc, hl.below hb hB, hm⟩
theorem below_setRow {B : Nat} {a w : World} (h : Below B a w) {g : Nat} (hg : B ≤ g) (cs : Array Value) : Below B a (w.setRow g cs) :=
 h.trans ⟨rfl, rfl, rfl, by simp, fun k hk => setRow_other _ _ _ _ (by omega)⟩
theorem below_new (w : World) (o : Obj) : Below w.heap.size w (w.alloc o) := (Below.refl _ _).alloc (Nat.le_refl _) _
theorem cell_new (w : World) (cs : Array Value) (t : TypeId) (fr : Nat × Nat) (i : Nat) : (w.alloc (.cells cs t fr)).cell? ⟨w.heap.size, i, none⟩ = cs[i]? := cell_of_row _ _ _ _ _ _ (heap_alloc_new w _)
theorem below_drews {B : Nat} {a w : World} (h : Below B a w) (n : Nat) : Below B a (w.drewN n) := h.trans ⟨rfl, rfl, rfl, Nat.le_refl _, fun _ _ => rfl⟩
theorem ListsAt.new (w : World) (t : TypeId) (fr : Nat × Nat) (vs : List Value) (ll : List (List UInt8))
 (h : ∀ i (h : i < ll.length), ∃ a' cap, vs[i]? = some (.slice a' ll[i].length cap) ∧ BytesAt w a' ll[i] ∧ ll[i].length ≤ 9223372036854775807) :
 ListsAt (w.alloc (.cells vs.toArray t fr)) (some ⟨w.heap.size, 0, none⟩) ll := by
 intro i hi
 obtain ⟨a', cap, hv, hl, hm⟩ := h i hi
 refine ⟨w.heap.size, 0, a', cap, rfl, ?_, hl.below (below_new w _) rfl, hm⟩
 rw [Nat.zero_add, cell_new]
 simpa using hv
theorem heap_setCells {g : Nat} {e : TypeId} {fr : Nat × Nat} : ∀ (vs : List Value) (o : Nat) (w : World) (cur : Array Value), w.heap[g]? = some (.cells cur e fr) → o + vs.length ≤ cur.size →
 ∃ cur', (w.setCells g o vs).heap[g]? = some (.cells cur' e fr) ∧ cur'.size = cur.size ∧ cur'.toList.take (o + vs.length) = cur.toList.take o ++ vs
 | [], o, w, cur, h, _ => ⟨cur, h, rfl, by simp⟩
 | v :: r, o, w, cur, h, hl => by
  have hl' : o + 1 + r.length ≤ cur.size := by simp at hl; omega
  have h1 : (w.setCell ⟨g, o, none⟩ v).heap[g]? = some (.cells (cur.setIfInBounds o v) e fr) := by
   rw [setCell_eq_setRow w g o cur e fr v h]
   exact setRow_heap w g cur _ e fr h
  obtain ⟨cur', h2, h3, h4⟩ := heap_setCells r (o + 1) _ _ h1 (by simpa using hl')
  refine ⟨cur', h2, by simpa using h3, ?_⟩
  rw [show o + (v :: r).length = o + 1 + r.length by simp; omega, h4]
  rw [Array.toList_setIfInBounds, List.take_succ_eq_append_getElem (by simp; omega)]
  simp [List.take_set]
  exact List.set_eq_of_length_le (List.length_take_le _ _)
theorem setCells_grown {w : World} {g : Nat} (o : Nat) (vs : List Value) : w.grownBy (w.setCells g o vs) (some g) :=
 ⟨World.os_setCells w g o vs, by
  induction vs generalizing o w with
  | nil => rfl
  | cons v r ih => exact (ih (w := w.setCell ⟨g, o, none⟩ v) (o + 1)).trans rfl, World.output_setCells w g o vs, by
  induction vs generalizing o w with
  | nil => exact Nat.le_refl _
  | cons v r ih => exact Nat.le_trans (by simp [World.setCell]) (ih (w := w.setCell ⟨g, o, none⟩ v) (o + 1)),
  fun k hk hne => World.heap_setCells_other w g o vs hk (fun e => hne (by rw [e]))⟩
section
variable {P : Program} (w : World)
theorem run_append_own_src (base : Nat) (t tx ty e : TypeId) (i : TypeInfo) (z : Value) (size bytes : Nat) (ht : P.underlying t = some (.slice e)) (hi : P.info? e = some i) (hz : i.zero = some z)
 (hsize : i.size = size) (hby : i.bytes = bytes) (hzs : z.cells.size = size)
 (v : Value) (n : Nat) (xs : List Value) (hown : w.ownsRow base e size v n xs)
 (x : Value) (m : Nat) (news : List Value) (hs : Src P size tx x m news w)
 (h63 : n + m ≤ maxLen) (hbytes : (n + m) * bytes ≤ 140737488355328) (hbase : base ≤ w.heap.size) :
 ∃ v' w', (Builtin.append_ #[t, tx] ty #[v, x]).run P w = .ok v' w' ∧ w'.ownsRow base e size v' (n + m) (xs ++ news) ∧ w.grownBy w' v.ownBlock ∧
  (v'.ownBlock = v.ownBlock ∨ v'.ownBlock = some w.heap.size) ∧ (w.heap.size < w'.heap.size ∨ v'.ownBlock = v.ownBlock) := by
 subst hsize
 subst hby
 have hsmall : n + m ≤ 9223372036854775807 := by simp only [maxLen] at h63; omega
 have hlen : (xs ++ news).length = (n + m) * i.size := by rw [List.length_append, hown.1, hs.newsLen, Nat.add_mul]
 have grown : ∀ (old : Nat), old < n + m → ∀ (row : Option Nat),
  (w.drew.alloc (.cells ((xs ++ news).toArray ++ Builtin.zeroCells z.cells (grownCap w (n + m) old e - (n + m))) e)).ownsRow base e i.size
   (.slice (some ⟨w.heap.size, 0, none⟩) (n + m) (grownCap w (n + m) old e)) (n + m) (xs ++ news) ∧
  w.grownBy (w.drew.alloc (.cells ((xs ++ news).toArray ++ Builtin.zeroCells z.cells (grownCap w (n + m) old e - (n + m))) e)) row := by
  intro old ho row
  have hge := grownCap_ge w (n + m) old e
  have hcm : grownCap w (n + m) old e ≤ maxLen := grownCap_le_maxLen w (n + m) old e h63
  refine ⟨⟨hlen, .inr ⟨w.heap.size, _, _, rfl, hbase, heap_alloc_new w.drew _, hge, hcm, ?_, ?_⟩⟩, ⟨rfl, rfl, rfl, by simp, fun k hk _ => heap_alloc_old w.drew _ hk⟩⟩
  · simp only [Array.size_append, List.size_toArray, size_zeroCells, hzs, hlen, ← Nat.add_mul]
    congr 1
    omega
  · simp only [Array.toList_append]
    rw [← hlen]
    exact List.take_left
 rcases hown.2 with ⟨rfl, rfl⟩ | ⟨g, cap, cur, rfl, hbg, hg, hnc, hcm, hcs, htake⟩
 · have hx : xs = [] := List.eq_nil_of_length_eq_zero (by simpa using hown.1)
   subst hx
   by_cases hm : m = 0
   · subst hm
     have hn : news = [] := List.eq_nil_of_length_eq_zero (by simpa using hs.newsLen)
     subst hn
     refine ⟨.slice none 0 0, w, ?_, World.ownsRow_nil w base e i.size, ⟨rfl, rfl, rfl, Nat.le_refl _, fun _ _ _ => rfl⟩, .inl rfl, .inr rfl⟩
     rcases hs.kind with ⟨e', hk⟩ | hk <;> simp [Builtin.append_, run_underlying ht, run_underlying hk, sizeOf, typeInfo, hi, hs.len, hs.cells]
   · have hr := run_append_grow_src (P := P) w t tx ty e i z ht hi hz none 0 0 [] (run_firstCells_none w.drew i.size 0 0 0) x m news hs (by omega) (by omega)
      (growslice_fits (by omega) (by simpa using hbytes))
     have hgr := grown 0 (by omega) (Value.ownBlock (.slice none 0 0))
     exact ⟨_, _, hr, hgr.1, hgr.2, .inr rfl, .inl (by simp)⟩
 · by_cases hroom : n + m ≤ cap
   · have hfit : n * i.size + news.length ≤ cur.size := by rw [hs.newsLen, hcs, ← Nat.add_mul]; exact Nat.mul_le_mul_right _ hroom
     have hr := run_append_room_src (P := P) w t tx ty e i ht hi g 0 n cap x m news hs hroom
      (fun j hj => by rw [cell_of_row w g _ cur e _ hg]; simp; omega) (fun j hj => frozen_of_row w g _ cur e hg)
     obtain ⟨cur', h1, h2, h3⟩ := heap_setCells news (n * i.size) w cur hg hfit
     refine ⟨_, _, hr, ⟨hlen, .inr ⟨g, cap, cur', rfl, hbg, by simpa using h1, hroom, hcm, h2.trans hcs, ?_⟩⟩, setCells_grown _ _, .inl rfl, .inr rfl⟩
     rw [← htake, ← h3, Nat.add_mul, hs.newsLen]
   · have hr := run_append_grow_src (P := P) w t tx ty e i z ht hi hz (some ⟨g, 0, none⟩) n cap xs
      (run_firstCells_some w.drew i.size n ⟨g, 0, none⟩ n cap xs hown.1 (by simpa using hown.cells (g := g) rfl)) x m news hs (by omega) (by omega) (growslice_fits (by omega) hbytes)
     have hgr := grown cap (by omega) (Value.ownBlock (.slice (some ⟨g, 0, none⟩) n cap))
     exact ⟨_, _, hr, hgr.1, hgr.2, .inr rfl, .inl (by simp)⟩
theorem wpList_append_src {ops : Array Oper} {rest : List Oper} {o : Oper} {a : Act} {Q : Exit → Act → World → Prop} (hgd : o.guard = none) (s x : Operand) (t tx : TypeId)
 (ho : o.op = .call { callee := .builtin .append, args := #[s, x], argTypes := #[t, tx] })
 (base : Nat) (e : TypeId) (i : TypeInfo) (z : Value) (size bytes : Nat) (ht : P.underlying t = some (.slice e)) (hi : P.info? e = some i) (hz : i.zero = some z)
 (hsize : i.size = size) (hby : i.bytes = bytes) (hzs : z.cells.size = size)
 (v : Value) (n : Nat) (xs : List Value) (hv : a.eval s = v) (hown : w.ownsRow base e size v n xs)
 (xv : Value) (m : Nat) (news : List Value) (hx : a.eval x = xv) (hs : Src P size tx xv m news w)
 (h63 : n + m ≤ maxLen) (hbytes : (n + m) * bytes ≤ 140737488355328) (hbase : base ≤ w.heap.size)
 (h : ∀ v' w', w'.ownsRow base e size v' (n + m) (xs ++ news) → w.grownBy w' v.ownBlock → (v'.ownBlock = v.ownBlock ∨ v'.ownBlock = some w.heap.size) → wpList P ops Q rest (a.put o.dst v') w') : wpList P ops Q (o :: rest) a w :=
 wpList_plain hgd fun K hK => by
  obtain ⟨v', w', hr, h2, h3, h4, _⟩ := run_append_own_src (P := P) w base t tx o.type e i z size bytes ht hi hz hsize hby hzs v n xs hown xv m news hs h63 hbytes hbase
  unfold Oper.wp execOp
  simp only [ho, resolve, invoke, builtin, Sem.run_bind, Sem.run_pure, Result.andThen_ok, List.map_toArray, List.map_cons, List.map_nil, hv, hx, hr]
  exact hK _ _ (h v' w' h2 h3 h4)
end
def bvs (l : List UInt8) : List Value := l.map fun c => Value.int .u8 (c.toNat : Int)
theorem bvs_append (l m : List UInt8) : bvs (l ++ m) = bvs l ++ bvs m := by simp [bvs]
theorem bvs_length (l : List UInt8) : (bvs l).length = l.length := by simp [bvs]
theorem bvs_one (l : List UInt8) : ∀ u ∈ bvs l, u.oneCell' = true := fun u hu => by
 obtain ⟨_, _, rfl⟩ := List.mem_map.1 hu
 rfl
theorem Addr_add (b o j : Nat) : (⟨b, o, none⟩ : Addr).add j = ⟨b, o + j, none⟩ := by unfold Addr.add; split <;> simp_all
theorem BytesAt.src {P : Program} {w : World} {a : Option Addr} {l : List UInt8} (h : BytesAt w a l) {tx e' : TypeId} (hk : P.underlying tx = some (.slice e')) (cap : Nat) : Src P 1 tx (.slice a l.length cap) l.length (bvs l) w := by
 cases a with
 | none =>
  have : l = [] := by
   cases l with
   | nil => rfl
   | cons c r => obtain ⟨b, off, hh, _⟩ := h 0 (by simp); cases hh
  subst this
  exact Src.ofNil w hk cap
 | some a =>
  refine Src.ofSlice w hk a _ cap (bvs l) (by simp [bvs]) (fun j u hu => ?_) (bvs_one l)
  have hj : j < l.length := by
   have := (List.getElem?_eq_some_iff.1 hu).1
   simpa [bvs] using this
  obtain ⟨b, off, hh, hc⟩ := h j hj
  cases hh
  rw [Addr_add, hc]
  rw [← hu]; simp [bvs, hj]
theorem own_cell {w : World} {base n : Nat} {e : TypeId} {a : Option Addr} {len cap : Nat} {xs : List Value} (h : w.ownsRow base e 1 (.slice a len cap) n xs) (i : Nat) (u : Value) (hi : xs[i]? = some u) :
 ∃ g, a = some ⟨g, 0, none⟩ ∧ base ≤ g ∧ w.cell? ⟨g, i, none⟩ = some u ∧ (∀ j, w.frozen? ⟨g, j, none⟩ = false) ∧ len = n := by
 have hlt := (List.getElem?_eq_some_iff.1 hi).1
 rcases h.2 with ⟨hv, hn⟩ | ⟨g, cap', cur, hv, hb, hg, hnc, _, hcs, ht⟩
 · have := h.1; omega
 · have hcap : len = n ∧ a = some ⟨g, 0, none⟩ := by
    simp only [Value.slice.injEq] at hv
    exact ⟨hv.2.1, hv.1⟩
   obtain ⟨rfl, rfl⟩ := hcap
   refine ⟨g, rfl, hb, ?_, fun j => frozen_of_row w g j cur e hg, rfl⟩
   rw [cell_of_row w g i cur e _ hg]
   rw [← ht, List.getElem?_take] at hi
   split at hi
   · simpa using hi
   · cases hi
theorem own_slice {w : World} {base size n : Nat} {e : TypeId} {v : Value} {xs : List Value} (h : w.ownsRow base e size v n xs) : ∃ a cap, v = .slice a n cap ∧ n ≤ cap ∧ cap ≤ maxLen := by
 rcases h.2 with ⟨rfl, rfl⟩ | ⟨g, cap', cur, hv, _, _, h1, h2, _⟩
 · exact ⟨none, 0, rfl, Nat.le_refl _, Nat.zero_le _⟩
 · exact ⟨_, cap', hv, h1, h2⟩
theorem own_bytes {w : World} {base n : Nat} {e : TypeId} {a : Option Addr} {len cap : Nat} {l : List UInt8} (h : w.ownsRow base e 1 (.slice a len cap) n (bvs l)) : BytesAt w a l := by
 intro i hi
 obtain ⟨g, rfl, _, hc, _⟩ := own_cell h i (.int .u8 (l[i].toNat : Int)) (by simp [bvs, hi])
 exact ⟨g, 0, rfl, by rw [Nat.zero_add]; exact hc⟩
theorem own_below {w w' : World} {base size n B : Nat} {e : TypeId} {v : Value} {xs : List Value} (h : w.ownsRow base e size v n xs) (hb : Below B w w') (hB : ∀ k, v.ownBlock = some k → k < B) : w'.ownsRow base e size v n xs := by
 refine ⟨h.1, ?_⟩
 rcases h.2 with hn | ⟨g, cap', cur, rfl, h1, h2, r⟩
 · exact .inl hn
 · exact .inr ⟨g, cap', cur, rfl, h1, by rw [hb.block g (hB g rfl)]; exact h2, r⟩
theorem own_later {w w' : World} {base size n B : Nat} {e : TypeId} {v : Value} {xs : List Value} (h : w.ownsRow base e size v n xs) (hb : Below B w w') (hB : w.heap.size ≤ B) : w'.ownsRow base e size v n xs :=
 own_below h hb fun k hk => Nat.lt_of_lt_of_le (h.lt k hk).2 hB
theorem own_grown {w w' : World} {base size n : Nat} {row : Option Nat} {e : TypeId} {v : Value} {xs : List Value} (h : w.ownsRow base e size v n xs) (hg : w.grownBy w' row) (hr : ∀ k, v.ownBlock = some k → row ≠ some k) : w'.ownsRow base e size v n xs := by
 refine ⟨h.1, ?_⟩
 rcases h.2 with hn | ⟨g, cap', cur, rfl, h1, h2, r⟩
 · exact .inl hn
 · exact .inr ⟨g, cap', cur, rfl, h1, by rw [hg.block g ((h.lt g rfl).2) (fun e => hr g rfl e.symm)]; exact h2, r⟩
theorem own_mono {w : World} {base base' size n : Nat} {e : TypeId} {v : Value} {xs : List Value} (h : w.ownsRow base e size v n xs) (hb : base' ≤ base) : w.ownsRow base' e size v n xs := by
 refine ⟨h.1, ?_⟩
 rcases h.2 with hn | ⟨g, cap', cur, rfl, h1, r⟩
 · exact .inl hn
 · exact .inr ⟨g, cap', cur, rfl, Nat.le_trans hb h1, r⟩
theorem own_set {w : World} {base n g cap : Nat} {e : TypeId} {xs : List Value} (h : w.ownsRow base e 1 (.slice (some ⟨g, 0, none⟩) n cap) n xs) (i : Nat) (u : Value) :
 (w.setCell ⟨g, i, none⟩ u).ownsRow base e 1 (.slice (some ⟨g, 0, none⟩) n cap) n (xs.set i u) := by
 refine ⟨by simpa using h.1, ?_⟩
 rcases h.2 with ⟨hv, _⟩ | ⟨g', cap', cur, hv, h1, h2, h3, h4, h5, h6⟩
 · cases hv
 · simp only [Value.slice.injEq, Option.some.injEq, Addr.mk.injEq] at hv
   obtain ⟨⟨rfl, _⟩, _, rfl⟩ := hv
   refine .inr ⟨g, cap, cur.setIfInBounds i u, rfl, h1, heap_setCell_same w g i cur e u h2, h3, h4, by simpa using h5, ?_⟩
   rw [Array.toList_setIfInBounds, List.take_set, h6]
theorem own_new (w : World) (base : Nat) (e : TypeId) (vs : List Value) (hb : base ≤ w.heap.size) (hm : vs.length ≤ maxLen) : (w.alloc (.cells vs.toArray e)).ownsRow base e 1 (.slice (some ⟨w.heap.size, 0, none⟩) vs.length vs.length) vs.length vs :=
 ⟨by simp, .inr ⟨w.heap.size, vs.length, vs.toArray, rfl, hb, heap_alloc_new w _, Nat.le_refl _, hm, by simp, by simp⟩⟩
theorem conv_bytes {P : Program} {w : World} {a : Option Addr} {l : List UInt8} (h : BytesAt w a l) (src e dst : TypeId) (hs : P.underlying src = some (.slice e)) (he : P.underlying e = some (.int .u8)) (hd : P.underlying dst = some .string) (n cap : Nat) (hn : n = l.length) :
 (convert src dst (.slice a n cap)).run P w = .ok (.string ⟨l.toArray⟩) w := by
 subst hn
 rw [run_convert_bytes_string w src dst e a _ cap hs he hd]
 cases a with
 | none =>
  have : l = [] := by
   cases l with
   | nil => rfl
   | cons c r => obtain ⟨b, off, hh, _⟩ := h 0 (by simp); cases hh
  subst this
  simp [Conv.bytesToString]
  rfl
 | some a =>
  have hr := run_loadCells_list (P := P) w a (bvs l) (fun j u hu => by
   have hj : j < l.length := by
    have := (List.getElem?_eq_some_iff.1 hu).1
    simpa [bvs] using this
   obtain ⟨b, off, hh, hc⟩ := h j hj
   cases hh
   rw [Addr_add, hc]
   rw [← hu]; simp [bvs, hj])
  have he : (l.map fun c => (c.toNat : Int)).map (Value.int .u8) = bvs l := by simp [bvs]
  rw [run_bytesToString w a l.length cap (l.map fun c => (c.toNat : Int)) (by rw [he]; simpa [bvs_length] using hr)]
  congr 2
  have key : ∀ (l : List UInt8) (r : ByteArray), (l.map fun c => (c.toNat : Int)).foldl (fun r n => r.push (UInt8.ofNat n.toNat)) r = ⟨r.data ++ l.toArray⟩ := by
   intro l
   induction l with
   | nil => intro r; simp
   | cons c l ih =>
    intro r
    rw [List.map_cons, List.foldl_cons, ih]
    apply ByteArray.ext
    simp [ByteArray.push]
  rw [key]
  apply ByteArray.ext
  simp [ByteArray.empty, ByteArray.emptyWithCapacity]
  rfl
def subAddr (a : Option Addr) (cap l : Nat) : Option Addr := if cap = l then a else a.map (·.add l)
theorem BytesAt.sub {w : World} {a : Option Addr} {all : List UInt8} (h : BytesAt w a all) (cap l m : Nat) (hm : l + m ≤ all.length) (hc : all.length ≤ cap) : BytesAt w (subAddr a cap l) ((all.drop l).take m) := by
 intro i hi
 have him : i < m := by simp at hi; omega
 obtain ⟨b, off, rfl, hcell⟩ := h (l + i) (by omega)
 refine ⟨b, off + l, ?_, ?_⟩
 · unfold subAddr
   rw [if_neg (by omega)]
   simp [Addr_add]
 · rw [Nat.add_assoc, hcell]
   simp
end Go.Proofs.YtjlliohjeiclaaaGreatDoor
namespace Go.Proofs.YtjlliohjeiclaaaGreatDoor
namespace Pm
def klt (a b : ByteArray) : Bool := Op.bytesLess a.toList b.toList
theorem klt_iff (a b : ByteArray) : klt a b = true ↔ a.data.toList < b.data.toList := by
 unfold klt; rw [bytesLess_eq, ByteArray.toList_eq, ByteArray.toList_eq]; simp
theorem key_ext {a b : ByteArray} (h : a.data.toList = b.data.toList) : a = b := by
 apply ByteArray.ext; exact Array.toList_inj.1 h
theorem klt_irrefl (a : ByteArray) : klt a a = false := by
 cases h : klt a a with
 | false => rfl
 | true => exact absurd ((klt_iff a a).1 h) (List.lt_irrefl _)
theorem klt_trans {a b c : ByteArray} (h : klt a b = true) (k : klt b c = true) : klt a c = true :=
 (klt_iff a c).2 (List.lt_trans ((klt_iff a b).1 h) ((klt_iff b c).1 k))
theorem klt_asymm {a b : ByteArray} (h : klt a b = true) : klt b a = false := by
 cases k : klt b a with
 | false => rfl
 | true => have := klt_trans h k; rw [klt_irrefl] at this; cases this
theorem klt_tri {a b : ByteArray} (h : klt a b = false) (k : klt b a = false) : a = b := by
 apply key_ext
 have h1 : ¬ a.data.toList < b.data.toList := fun e => by rw [(klt_iff a b).2 e] at h; cases h
 have k1 : ¬ b.data.toList < a.data.toList := fun e => by rw [(klt_iff b a).2 e] at k; cases k
 exact List.le_antisymm (List.not_lt.1 k1) (List.not_lt.1 h1)
theorem klt_ne {a b : ByteArray} (h : klt a b = true) : a ≠ b := by
 rintro rfl; rw [klt_irrefl] at h; cases h
theorem eq_iff (a b : ByteArray) : (a.toList == b.toList) = decide (a = b) := by
 rw [ByteArray.toList_eq, ByteArray.toList_eq, Bool.eq_iff_iff]
 simp only [beq_iff_eq, decide_eq_true_eq]
 exact ⟨key_ext, fun h => by rw [h]⟩
inductive Tr (α : Type) where
 | nil : Tr α
 | node (b : Nat) (l : Tr α) (k : ByteArray) (v : α) (r : Tr α) : Tr α
section
variable {α : Type}
def ht : Tr α → Nat
 | .nil => 0
 | .node _ l _ _ r => max (ht l) (ht r) + 1
def sz : Tr α → Nat
 | .nil => 0
 | .node _ l _ _ r => sz l + sz r + 1
def items : Tr α → List (ByteArray × α)
 | .nil => []
 | .node _ l k v r => items l ++ (k, v) :: items r
def blocks : Tr α → List Nat
 | .nil => []
 | .node b l _ _ r => blocks l ++ b :: blocks r
def Bal : Tr α → Prop
 | .nil => True
 | .node _ l _ _ r => Bal l ∧ Bal r ∧ ht l ≤ ht r + 1 ∧ ht r ≤ ht l + 1
def pa : Tr α → Option Addr
 | .nil => none
 | .node b _ _ _ _ => some ⟨b, 0, none⟩
def Srt (l : List (ByteArray × α)) : Prop := l.Pairwise fun x y => klt x.1 y.1 = true
theorem sz_items (t : Tr α) : (items t).length = sz t := by
 induction t with
 | nil => rfl
 | node b l k v r ih1 ih2 => simp only [items, sz, List.length_append, List.length_cons, ih1, ih2]; omega
theorem ht_le (t : Tr α) : ht t ≤ sz t := by
 induction t with
 | nil => exact Nat.le_refl _
 | node b l k v r ih1 ih2 => simp only [ht, sz]; omega
theorem ht_pos {t : Tr α} (h : 0 < ht t) : ∃ b l k v r, t = .node b l k v r := by
 cases t with
 | nil => simp [ht] at h
 | node b l k v r => exact ⟨b, l, k, v, r, rfl⟩
inductive BalR (N : Nat) : Tr α → ByteArray → α → Tr α → Tr α → Prop
 | same {l r : Tr α} {k : ByteArray} {v : α} {b : Nat} : ht l ≤ ht r + 1 → ht r ≤ ht l + 1 → N ≤ b → BalR N l k v r (.node b l k v r)
 | ll {bl : Nat} {ll lr r : Tr α} {lk k : ByteArray} {lv v : α} {b1 b2 : Nat} : ht r + 1 < ht (.node bl ll lk lv lr) → ht lr ≤ ht ll → N ≤ b1 → N ≤ b2 →
  BalR N (.node bl ll lk lv lr) k v r (.node b1 ll lk lv (.node b2 lr k v r))
 | lr {bl bm : Nat} {ll ml mr r : Tr α} {lk mk k : ByteArray} {lv mv v : α} {b1 b2 b3 : Nat} : ht r + 1 < ht (.node bl ll lk lv (.node bm ml mk mv mr)) → ht ll < ht (.node bm ml mk mv mr) → N ≤ b1 → N ≤ b2 → N ≤ b3 →
  BalR N (.node bl ll lk lv (.node bm ml mk mv mr)) k v r (.node b1 (.node b2 ll lk lv ml) mk mv (.node b3 mr k v r))
 | rr {br : Nat} {l rl rr : Tr α} {rk k : ByteArray} {rv v : α} {b1 b2 : Nat} : ht l + 1 < ht (.node br rl rk rv rr) → ht rl ≤ ht rr → N ≤ b1 → N ≤ b2 →
  BalR N l k v (.node br rl rk rv rr) (.node b1 (.node b2 l k v rl) rk rv rr)
 | rl {br bm : Nat} {l ml mr rr : Tr α} {rk mk k : ByteArray} {rv mv v : α} {b1 b2 b3 : Nat} : ht l + 1 < ht (.node br (.node bm ml mk mv mr) rk rv rr) → ht rr < ht (.node bm ml mk mv mr) → N ≤ b1 → N ≤ b2 → N ≤ b3 →
  BalR N l k v (.node br (.node bm ml mk mv mr) rk rv rr) (.node b1 (.node b2 l k v ml) mk mv (.node b3 mr rk rv rr))
theorem BalR.mono {N N' : Nat} {l r t : Tr α} {k : ByteArray} {v : α} (h : BalR N l k v r t) (hN : N' ≤ N) : BalR N' l k v r t := by
 cases h with
 | same h1 h2 h3 => exact .same h1 h2 (Nat.le_trans hN h3)
 | ll h1 h2 h3 h4 => exact .ll h1 h2 (Nat.le_trans hN h3) (Nat.le_trans hN h4)
 | lr h1 h2 h3 h4 h5 => exact .lr h1 h2 (Nat.le_trans hN h3) (Nat.le_trans hN h4) (Nat.le_trans hN h5)
 | rr h1 h2 h3 h4 => exact .rr h1 h2 (Nat.le_trans hN h3) (Nat.le_trans hN h4)
 | rl h1 h2 h3 h4 h5 => exact .rl h1 h2 (Nat.le_trans hN h3) (Nat.le_trans hN h4) (Nat.le_trans hN h5)
theorem BalR.items {N : Nat} {l r t : Tr α} {k : ByteArray} {v : α} (h : BalR N l k v r t) : items t = items l ++ (k, v) :: items r := by
 cases h <;> simp [Pm.items]
theorem BalR.sz {N : Nat} {l r t : Tr α} {k : ByteArray} {v : α} (h : BalR N l k v r t) : sz t = sz l + sz r + 1 := by
 rw [← sz_items, h.items, ← sz_items l, ← sz_items r]; simp; omega
theorem BalR.bal {N : Nat} {l r t : Tr α} {k : ByteArray} {v : α} (h : BalR N l k v r t) (hl : Bal l) (hr : Bal r) (h1 : ht l ≤ ht r + 2) (h2 : ht r ≤ ht l + 2) :
 Bal t ∧ (ht t = max (ht l) (ht r) ∨ ht t = max (ht l) (ht r) + 1) ∧ (ht l ≤ ht r + 1 → ht r ≤ ht l + 1 → ht t = max (ht l) (ht r) + 1) := by
 cases h with
 | same h3 h4 h5 => exact ⟨⟨hl, hr, h3, h4⟩, .inr rfl, fun _ _ => rfl⟩
 | ll h3 h4 h5 h6 =>
  obtain ⟨b1, b2, b3, b4⟩ := hl
  simp only [ht] at *
  refine ⟨⟨b1, ⟨b2, hr, ?_, ?_⟩, ?_, ?_⟩, ?_, ?_⟩ <;> (try simp only [ht]) <;> omega
 | lr h3 h4 h5 h6 h7 =>
  obtain ⟨b1, ⟨b2, b3, b6, b7⟩, b4, b5⟩ := hl
  simp only [ht] at *
  refine ⟨⟨⟨b1, b2, ?_, ?_⟩, ⟨b3, hr, ?_, ?_⟩, ?_, ?_⟩, ?_, ?_⟩ <;> (try simp only [ht]) <;> omega
 | rr h3 h4 h5 h6 =>
  obtain ⟨b1, b2, b3, b4⟩ := hr
  simp only [ht] at *
  refine ⟨⟨⟨hl, b1, ?_, ?_⟩, b2, ?_, ?_⟩, ?_, ?_⟩ <;> (try simp only [ht]) <;> omega
 | rl h3 h4 h5 h6 h7 =>
  obtain ⟨⟨b1, b2, b6, b7⟩, b3, b4, b5⟩ := hr
  simp only [ht] at *
  refine ⟨⟨⟨hl, b1, ?_, ?_⟩, ⟨b2, b3, ?_, ?_⟩, ?_, ?_⟩, ?_, ?_⟩ <;> (try simp only [ht]) <;> omega
theorem BalR.plain {N : Nat} {l r t : Tr α} {k : ByteArray} {v : α} (h : BalR N l k v r t) (h1 : ht l ≤ ht r + 1) (h2 : ht r ≤ ht l + 1) : ∃ b, N ≤ b ∧ t = .node b l k v r := by
 cases h with
 | same _ _ h3 => exact ⟨_, h3, rfl⟩
 | ll h3 => exact absurd h3 (by omega)
 | lr h3 => exact absurd h3 (by omega)
 | rr h3 => exact absurd h3 (by omega)
 | rl h3 => exact absurd h3 (by omega)
inductive PutR (N : Nat) (k : ByteArray) (v : α) : Tr α → Tr α → Prop
 | nil {b : Nat} : N ≤ b → PutR N k v .nil (.node b .nil k v .nil)
 | lt {b : Nat} {l r l' t : Tr α} {k0 : ByteArray} {v0 : α} : klt k k0 = true → PutR N k v l l' → BalR N l' k0 v0 r t → PutR N k v (.node b l k0 v0 r) t
 | gt {b : Nat} {l r r' t : Tr α} {k0 : ByteArray} {v0 : α} : klt k0 k = true → PutR N k v r r' → BalR N l k0 v0 r' t → PutR N k v (.node b l k0 v0 r) t
 | eq {b b' : Nat} {l r : Tr α} {k0 : ByteArray} {v0 : α} : k = k0 → N ≤ b' → PutR N k v (.node b l k0 v0 r) (.node b' l k v r)
def ins (k : ByteArray) (v : α) : List (ByteArray × α) → List (ByteArray × α)
 | [] => [(k, v)]
 | x :: l => if klt k x.1 then (k, v) :: x :: l else if klt x.1 k then x :: ins k v l else (k, v) :: l
def del (k : ByteArray) (l : List (ByteArray × α)) : List (ByteArray × α) := l.filter fun x => decide (x.1 ≠ k)
theorem srt_append {l m : List (ByteArray × α)} : Srt (l ++ m) ↔ Srt l ∧ Srt m ∧ ∀ x ∈ l, ∀ y ∈ m, klt x.1 y.1 = true := List.pairwise_append
theorem srt_cons {x : ByteArray × α} {l : List (ByteArray × α)} : Srt (x :: l) ↔ (∀ y ∈ l, klt x.1 y.1 = true) ∧ Srt l := List.pairwise_cons
theorem ins_left {k : ByteArray} {v : α} {l m : List (ByteArray × α)} {x : ByteArray × α} (h : klt k x.1 = true) : ins k v (l ++ x :: m) = ins k v l ++ x :: m := by
 induction l with
 | nil => simp only [List.nil_append, ins]; rw [if_pos h]; rfl
 | cons y l ih =>
  simp only [List.cons_append, ins]
  by_cases h1 : klt k y.1 = true
  · rw [if_pos h1, if_pos h1]; rfl
  · rw [if_neg h1, if_neg h1]
    by_cases h2 : klt y.1 k = true
    · rw [if_pos h2, if_pos h2, ih]; rfl
    · rw [if_neg h2, if_neg h2]; rfl
theorem ins_right {k : ByteArray} {v : α} {l m : List (ByteArray × α)} {x : ByteArray × α} (h : klt x.1 k = true) (hl : ∀ y ∈ l, klt y.1 x.1 = true) : ins k v (l ++ x :: m) = l ++ x :: ins k v m := by
 induction l with
 | nil =>
  simp only [List.nil_append, ins]
  rw [if_neg (by rw [klt_asymm h]; simp), if_pos h]
 | cons y l ih =>
  have hy := klt_trans (hl y List.mem_cons_self) h
  simp only [List.cons_append, ins]
  rw [if_neg (by rw [klt_asymm hy]; simp), if_pos hy, ih (fun z hz => hl z (List.mem_cons_of_mem _ hz))]
theorem ins_here {k : ByteArray} {v v0 : α} {l m : List (ByteArray × α)} (hl : ∀ y ∈ l, klt y.1 k = true) : ins k v (l ++ (k, v0) :: m) = l ++ (k, v) :: m := by
 induction l with
 | nil =>
  simp only [List.nil_append, ins]
  rw [if_neg (by rw [klt_irrefl]; simp), if_neg (by rw [klt_irrefl]; simp)]
 | cons y l ih =>
  have hy := hl y List.mem_cons_self
  simp only [List.cons_append, ins]
  rw [if_neg (by rw [klt_asymm hy]; simp), if_pos hy, ih (fun z hz => hl z (List.mem_cons_of_mem _ hz))]
theorem ins_mem {k : ByteArray} {v : α} : ∀ {l : List (ByteArray × α)} {y : ByteArray × α}, y ∈ ins k v l → y = (k, v) ∨ y ∈ l
 | [], y, h => by simp [ins] at h; exact .inl h
 | x :: l, y, h => by
  simp only [ins] at h
  split at h
  · rcases List.mem_cons.1 h with h | h
    · exact .inl h
    · exact .inr h
  · split at h
    · rcases List.mem_cons.1 h with h | h
      · exact .inr (h ▸ List.mem_cons_self)
      · rcases ins_mem h with h | h
        · exact .inl h
        · exact .inr (List.mem_cons_of_mem _ h)
    · rcases List.mem_cons.1 h with h | h
      · exact .inl h
      · exact .inr (List.mem_cons_of_mem _ h)
theorem ins_srt {k : ByteArray} {v : α} : ∀ {l : List (ByteArray × α)}, Srt l → Srt (ins k v l)
 | [], _ => by simp [ins, Srt]
 | x :: l, h => by
  obtain ⟨h1, h2⟩ := srt_cons.1 h
  simp only [ins]
  by_cases hk : klt k x.1 = true
  · rw [if_pos hk]
    exact srt_cons.2 ⟨fun y hy => by
     rcases List.mem_cons.1 hy with rfl | hy
     · exact hk
     · exact klt_trans hk (h1 y hy), h⟩
  · rw [if_neg hk]
    by_cases hx : klt x.1 k = true
    · rw [if_pos hx]
      exact srt_cons.2 ⟨fun y hy => by
       rcases ins_mem hy with rfl | hy
       · exact hx
       · exact h1 y hy, ins_srt h2⟩
    · rw [if_neg hx]
      have e := klt_tri (by simpa using hk) (by simpa using hx)
      exact srt_cons.2 ⟨fun y hy => by dsimp only; rw [e]; exact h1 y hy, h2⟩
theorem PutR.items {N : Nat} {k : ByteArray} {v : α} {t t' : Tr α} (h : PutR N k v t t') (hs : Srt (items t)) : items t' = ins k v (items t) := by
 induction h with
 | nil => rfl
 | lt h1 h2 h3 ih =>
  obtain ⟨s1, s2, s3⟩ := srt_append.1 hs
  rw [h3.items, ih s1]
  exact (ins_left (x := (_, _)) h1).symm
 | gt h1 h2 h3 ih =>
  obtain ⟨s1, s2, s3⟩ := srt_append.1 hs
  rw [h3.items, ih (srt_cons.1 s2).2]
  exact (ins_right (x := (_, _)) h1 (fun y hy => s3 y hy _ List.mem_cons_self)).symm
 | eq h1 h2 =>
  subst h1
  obtain ⟨s1, s2, s3⟩ := srt_append.1 hs
  exact (ins_here (fun y hy => s3 y hy _ List.mem_cons_self)).symm
theorem PutR.bal {N : Nat} {k : ByteArray} {v : α} {t t' : Tr α} (h : PutR N k v t t') (hb : Bal t) : Bal t' ∧ (ht t' = ht t ∨ ht t' = ht t + 1) := by
 induction h with
 | nil => exact ⟨⟨trivial, trivial, by simp [ht], by simp [ht]⟩, .inr rfl⟩
 | lt h1 h2 h3 ih =>
  obtain ⟨b1, b2, b3, b4⟩ := hb
  obtain ⟨i1, i2⟩ := ih b1
  obtain ⟨g1, g2, g3⟩ := h3.bal i1 b2 (by omega) (by omega)
  refine ⟨g1, ?_⟩
  simp only [ht]
  omega
 | gt h1 h2 h3 ih =>
  obtain ⟨b1, b2, b3, b4⟩ := hb
  obtain ⟨i1, i2⟩ := ih b2
  obtain ⟨g1, g2, g3⟩ := h3.bal b1 i1 (by omega) (by omega)
  refine ⟨g1, ?_⟩
  simp only [ht]
  omega
 | eq h1 h2 => exact ⟨hb, .inl rfl⟩
inductive FirstR (N : Nat) : Tr α → ByteArray → α → Tr α → Prop
 | here {b : Nat} {k : ByteArray} {v : α} {r : Tr α} : FirstR N (.node b .nil k v r) k v r
 | left {b : Nat} {l r l' t : Tr α} {k k1 : ByteArray} {v v1 : α} : FirstR N l k1 v1 l' → BalR N l' k v r t → FirstR N (.node b l k v r) k1 v1 t
theorem FirstR.items {N : Nat} {t t' : Tr α} {k : ByteArray} {v : α} (h : FirstR N t k v t') : items t = (k, v) :: items t' := by
 induction h with
 | here => rfl
 | left h1 h2 ih => rw [h2.items]; simp only [Pm.items, ih, List.cons_append]
theorem FirstR.bal {N : Nat} {t t' : Tr α} {k : ByteArray} {v : α} (h : FirstR N t k v t') (hb : Bal t) : Bal t' ∧ (ht t' = ht t ∨ ht t = ht t' + 1) := by
 induction h with
 | here => obtain ⟨b1, b2, b3, b4⟩ := hb; exact ⟨b2, .inr (by simp [ht])⟩
 | left h1 h2 ih =>
  obtain ⟨b1, b2, b3, b4⟩ := hb
  obtain ⟨i1, i2⟩ := ih b1
  obtain ⟨g1, g2, g3⟩ := h2.bal i1 b2 (by omega) (by omega)
  refine ⟨g1, ?_⟩
  simp only [ht]
  omega
inductive TakeR (N : Nat) (k : ByteArray) : Tr α → Tr α → Prop
 | lt {b : Nat} {l r l' t : Tr α} {k0 : ByteArray} {v0 : α} : klt k k0 = true → TakeR N k l l' → BalR N l' k0 v0 r t → TakeR N k (.node b l k0 v0 r) t
 | gt {b : Nat} {l r r' t : Tr α} {k0 : ByteArray} {v0 : α} : klt k0 k = true → TakeR N k r r' → BalR N l k0 v0 r' t → TakeR N k (.node b l k0 v0 r) t
 | last {b : Nat} {l : Tr α} {k0 : ByteArray} {v0 : α} : k = k0 → TakeR N k (.node b l k0 v0 .nil) l
 | eq {b : Nat} {l r r' t : Tr α} {k0 k1 : ByteArray} {v0 v1 : α} : k = k0 → FirstR N r k1 v1 r' → BalR N l k1 v1 r' t → TakeR N k (.node b l k0 v0 r) t
theorem del_none {k : ByteArray} {l : List (ByteArray × α)} (h : ∀ x ∈ l, x.1 ≠ k) : del k l = l := by
 unfold del; rw [List.filter_eq_self]; intro x hx; simpa using h x hx
theorem del_append (k : ByteArray) (l m : List (ByteArray × α)) : del k (l ++ m) = del k l ++ del k m := List.filter_append ..
theorem del_here (k : ByteArray) (v : α) (l : List (ByteArray × α)) : del k ((k, v) :: l) = del k l := by simp [del]
theorem del_other {k : ByteArray} {x : ByteArray × α} (l : List (ByteArray × α)) (h : x.1 ≠ k) : del k (x :: l) = x :: del k l := by simp [del, h]
theorem TakeR.items {N : Nat} {k : ByteArray} {t t' : Tr α} (h : TakeR N k t t') (hs : Srt (items t)) : items t' = del k (items t) := by
 induction h with
 | lt h1 h2 h3 ih =>
  obtain ⟨s1, s2, s3⟩ := srt_append.1 hs
  obtain ⟨s4, s5⟩ := srt_cons.1 s2
  rw [h3.items, ih s1]
  simp only [Pm.items, del_append]
  congr 1
  rw [del_other _ (Ne.symm (klt_ne h1)), del_none (fun x hx => Ne.symm (klt_ne (klt_trans h1 (s4 x hx))))]
 | gt h1 h2 h3 ih =>
  obtain ⟨s1, s2, s3⟩ := srt_append.1 hs
  obtain ⟨s4, s5⟩ := srt_cons.1 s2
  rw [h3.items, ih s5]
  simp only [Pm.items, del_append]
  rw [del_other _ (klt_ne h1), del_none (fun x hx => klt_ne (klt_trans (s3 x hx _ List.mem_cons_self) h1))]
 | last h1 =>
  subst h1
  obtain ⟨s1, s2, s3⟩ := srt_append.1 hs
  simp only [Pm.items, del_append, del_here]
  rw [del_none (fun x hx => klt_ne (s3 x hx _ List.mem_cons_self))]
  simp [del]
 | eq h1 h2 h3 =>
  subst h1
  obtain ⟨s1, s2, s3⟩ := srt_append.1 hs
  obtain ⟨s4, s5⟩ := srt_cons.1 s2
  simp only [Pm.items, del_append, del_here]
  rw [h3.items, del_none (fun x hx => klt_ne (s3 x hx _ List.mem_cons_self)), del_none (fun x hx => Ne.symm (klt_ne (s4 x hx))), h2.items]
theorem TakeR.bal {N : Nat} {k : ByteArray} {t t' : Tr α} (h : TakeR N k t t') (hb : Bal t) : Bal t' ∧ (ht t' = ht t ∨ ht t = ht t' + 1) := by
 induction h with
 | lt h1 h2 h3 ih =>
  obtain ⟨b1, b2, b3, b4⟩ := hb
  obtain ⟨i1, i2⟩ := ih b1
  obtain ⟨g1, g2, g3⟩ := h3.bal i1 b2 (by omega) (by omega)
  refine ⟨g1, ?_⟩
  simp only [ht]
  omega
 | gt h1 h2 h3 ih =>
  obtain ⟨b1, b2, b3, b4⟩ := hb
  obtain ⟨i1, i2⟩ := ih b2
  obtain ⟨g1, g2, g3⟩ := h3.bal b1 i1 (by omega) (by omega)
  refine ⟨g1, ?_⟩
  simp only [ht]
  omega
 | last h1 => obtain ⟨b1, b2, b3, b4⟩ := hb; exact ⟨b1, .inr (by simp [ht])⟩
 | eq h1 h2 h3 =>
  obtain ⟨b1, b2, b3, b4⟩ := hb
  obtain ⟨i1, i2⟩ := h2.bal b2
  obtain ⟨g1, g2, g3⟩ := h3.bal b1 i1 (by omega) (by omega)
  refine ⟨g1, ?_⟩
  simp only [ht]
  omega
def seek (k : ByteArray) : Tr α → Tr α
 | .nil => .nil
 | .node b l k0 v0 r => if klt k k0 then seek k l else if klt k0 k then seek k r else .node b l k0 v0 r
inductive JoinR (N : Nat) (k : ByteArray) (v : α) : Tr α → Tr α → Tr α → Prop
 | left {b : Nat} {ll lr r t1 t : Tr α} {lk : ByteArray} {lv : α} : ht r + 1 < ht (.node b ll lk lv lr) → JoinR N k v lr r t1 → BalR N ll lk lv t1 t → JoinR N k v (.node b ll lk lv lr) r t
 | right {b : Nat} {l rl rr t1 t : Tr α} {rk : ByteArray} {rv : α} : ht l + 1 < ht (.node b rl rk rv rr) → JoinR N k v l rl t1 → BalR N t1 rk rv rr t → JoinR N k v l (.node b rl rk rv rr) t
 | same {b : Nat} {l r : Tr α} : ht l ≤ ht r + 1 → ht r ≤ ht l + 1 → N ≤ b → JoinR N k v l r (.node b l k v r)
theorem JoinR.items {N : Nat} {k : ByteArray} {v : α} {l r t : Tr α} (h : JoinR N k v l r t) : items t = items l ++ (k, v) :: items r := by
 induction h with
 | left h1 h2 h3 ih => rw [h3.items, ih]; simp [Pm.items]
 | right h1 h2 h3 ih => rw [h3.items, ih]; simp [Pm.items]
 | same => rfl
theorem JoinR.bal {N : Nat} {k : ByteArray} {v : α} {l r t : Tr α} (h : JoinR N k v l r t) (hl : Bal l) (hr : Bal r) : Bal t ∧ (ht t = max (ht l) (ht r) ∨ ht t = max (ht l) (ht r) + 1) := by
 induction h with
 | left h1 h2 h3 ih =>
  obtain ⟨b1, b2, b3, b4⟩ := hl
  obtain ⟨i1, i2⟩ := ih b2 hr
  simp only [ht] at *
  obtain ⟨g1, g2, g3⟩ := h3.bal b1 i1 (by omega) (by omega)
  exact ⟨g1, by omega⟩
 | right h1 h2 h3 ih =>
  obtain ⟨b1, b2, b3, b4⟩ := hr
  obtain ⟨i1, i2⟩ := ih hl b1
  simp only [ht] at *
  obtain ⟨g1, g2, g3⟩ := h3.bal i1 b2 (by omega) (by omega)
  exact ⟨g1, by omega⟩
 | same h1 h2 h3 => exact ⟨⟨hl, hr, h1, h2⟩, .inr rfl⟩
inductive SplitR (N : Nat) (k : ByteArray) : Tr α → Tr α → Tr α → Tr α → Prop
 | nil : SplitR N k .nil .nil .nil .nil
 | lt {b : Nat} {l r a x c c' : Tr α} {k0 : ByteArray} {v0 : α} : klt k k0 = true → SplitR N k l a x c → JoinR N k0 v0 c r c' → SplitR N k (.node b l k0 v0 r) a x c'
 | gt {b : Nat} {l r a x c a' : Tr α} {k0 : ByteArray} {v0 : α} : klt k0 k = true → SplitR N k r a x c → JoinR N k0 v0 l a a' → SplitR N k (.node b l k0 v0 r) a' x c
 | eq {b : Nat} {l r : Tr α} {k0 : ByteArray} {v0 : α} : k = k0 → SplitR N k (.node b l k0 v0 r) l (.node b l k0 v0 r) r
theorem SplitR.bal {N : Nat} {k : ByteArray} {t a x c : Tr α} (h : SplitR N k t a x c) (hb : Bal t) : Bal a ∧ Bal c := by
 induction h with
 | nil => exact ⟨trivial, trivial⟩
 | lt h1 h2 h3 ih => obtain ⟨b1, b2, b3, b4⟩ := hb; obtain ⟨i1, i2⟩ := ih b1; exact ⟨i1, (h3.bal i2 b2).1⟩
 | gt h1 h2 h3 ih => obtain ⟨b1, b2, b3, b4⟩ := hb; obtain ⟨i1, i2⟩ := ih b2; exact ⟨(h3.bal b1 i1).1, i2⟩
 | eq => obtain ⟨b1, b2, b3, b4⟩ := hb; exact ⟨b1, b2⟩
def here : Tr α → List (ByteArray × α)
 | .nil => []
 | .node _ _ k v _ => [(k, v)]
theorem SplitR.items {N : Nat} {k : ByteArray} {t a x c : Tr α} (h : SplitR N k t a x c) : items t = items a ++ here x ++ items c := by
 induction h with
 | nil => rfl
 | lt h1 h2 h3 ih => rw [h3.items]; simp [Pm.items, ih]
 | gt h1 h2 h3 ih => rw [h3.items]; simp [Pm.items, ih]
 | eq => simp [Pm.items, here]
theorem SplitR.seek {N : Nat} {k : ByteArray} {t a x c : Tr α} (h : SplitR N k t a x c) : x = seek k t := by
 induction h with
 | nil => rfl
 | lt h1 h2 h3 ih => simp only [Pm.seek]; rw [if_pos h1]; exact ih
 | gt h1 h2 h3 ih => simp only [Pm.seek]; rw [if_neg (by rw [klt_asymm h1]; simp), if_pos h1]; exact ih
 | eq h1 => subst h1; simp only [Pm.seek]; rw [klt_irrefl]; simp
theorem seek_none {k : ByteArray} {t : Tr α} (hs : Srt (items t)) (h : seek k t = .nil) : ∀ x ∈ items t, x.1 ≠ k := by
 induction t with
 | nil => intro x hx; simp [items] at hx
 | node b l k0 v0 r ih1 ih2 =>
  obtain ⟨s1, s2, s3⟩ := srt_append.1 hs
  obtain ⟨s4, s5⟩ := srt_cons.1 s2
  simp only [seek] at h
  intro x hx
  simp only [items, List.mem_append, List.mem_cons] at hx
  by_cases h1 : klt k k0 = true
  · rw [if_pos h1] at h
    rcases hx with hx | rfl | hx
    · exact ih1 s1 h x hx
    · exact Ne.symm (klt_ne h1)
    · exact Ne.symm (klt_ne (klt_trans h1 (s4 x hx)))
  · rw [if_neg h1] at h
    by_cases h2 : klt k0 k = true
    · rw [if_pos h2] at h
      rcases hx with hx | rfl | hx
      · exact klt_ne (klt_trans (s3 x hx _ List.mem_cons_self) h2)
      · exact klt_ne h2
      · exact ih2 s5 h x hx
    · rw [if_neg h2] at h; cases h
theorem seek_some {k : ByteArray} {t : Tr α} {b : Nat} {l r : Tr α} {k0 : ByteArray} {v0 : α} (h : seek k t = .node b l k0 v0 r) : k0 = k ∧ (k, v0) ∈ items t := by
 induction t with
 | nil => cases h
 | node b1 l1 k1 v1 r1 ih1 ih2 =>
  simp only [seek] at h
  by_cases h1 : klt k k1 = true
  · rw [if_pos h1] at h
    obtain ⟨g1, g2⟩ := ih1 h
    exact ⟨g1, by simp only [items, List.mem_append]; exact .inl g2⟩
  · rw [if_neg h1] at h
    by_cases h2 : klt k1 k = true
    · rw [if_pos h2] at h
      obtain ⟨g1, g2⟩ := ih2 h
      exact ⟨g1, by simp only [items, List.mem_append, List.mem_cons]; exact .inr (.inr g2)⟩
    · rw [if_neg h2] at h
      cases h
      have e := klt_tri (by simpa using h1) (by simpa using h2)
      subst e
      exact ⟨rfl, by simp [items]⟩
end
end Pm
end Go.Proofs.YtjlliohjeiclaaaGreatDoor
namespace Go.Proofs.YtjlliohjeiclaaaGreatDoor
namespace St
open Go.Op
theorem bl_append : ∀ (x y a b : List UInt8), x.length = y.length → bytesLess (x ++ a) (y ++ b) = (bytesLess x y || (x == y && bytesLess a b))
 | [], [], a, b, _ => by cases b <;> cases a <;> simp [bytesLess]
 | [], _ :: _, _, _, h => by simp at h
 | _ :: _, [], _, _, h => by simp at h
 | c :: x, d :: y, a, b, h => by
  have ih := bl_append x y a b (by simpa using h)
  simp only [List.cons_append, bytesLess, ih]
  by_cases e : c = d
  · subst e; simp
  · have : (c == d) = false := by simpa using e
    simp [this, e]
def dig : Nat → Nat → List UInt8
 | 0, _ => []
 | k + 1, n => UInt8.ofNat (n / 256 ^ k % 256) :: dig k n
theorem dig_length (k n : Nat) : (dig k n).length = k := by induction k with
 | zero => rfl
 | succ k ih => simp [dig, ih]
theorem dig_lt_eq (k : Nat) : ∀ n m : Nat, bytesLess (dig k n) (dig k m) = decide (n % 256 ^ k < m % 256 ^ k) ∧ (dig k n = dig k m ↔ n % 256 ^ k = m % 256 ^ k) := by
 induction k with
 | zero => intro n m; simp [dig, bytesLess, Nat.mod_one]
 | succ k ih =>
  intro n m
  obtain ⟨h1, h2⟩ := ih n m
  have e1 : n % 256 ^ (k + 1) = n % 256 ^ k + 256 ^ k * (n / 256 ^ k % 256) := by rw [Nat.pow_succ]; exact Nat.mod_mul
  have e2 : m % 256 ^ (k + 1) = m % 256 ^ k + 256 ^ k * (m / 256 ^ k % 256) := by rw [Nat.pow_succ]; exact Nat.mod_mul
  have l1 : n / 256 ^ k % 256 < 256 := Nat.mod_lt _ (by omega)
  have l2 : m / 256 ^ k % 256 < 256 := Nat.mod_lt _ (by omega)
  have hp : 0 < 256 ^ k := Nat.pow_pos (by omega)
  have r1 : n % 256 ^ k < 256 ^ k := Nat.mod_lt _ hp
  have r2 : m % 256 ^ k < 256 ^ k := Nat.mod_lt _ hp
  rw [e1, e2]
  simp only [dig, bytesLess, h1, List.cons.injEq, h2]
  clear e1 e2 h1 h2 ih
  generalize n / 256 ^ k % 256 = a at *
  generalize m / 256 ^ k % 256 = b at *
  generalize n % 256 ^ k = x at *
  generalize m % 256 ^ k = y at *
  generalize 256 ^ k = P at *
  have ta : (UInt8.ofNat a).toNat = a := by simp [UInt8.toNat_ofNat']; omega
  have tb : (UInt8.ofNat b).toNat = b := by simp [UInt8.toNat_ofNat']; omega
  have hlt : (UInt8.ofNat a < UInt8.ofNat b) ↔ a < b := by rw [UInt8.lt_iff_toNat_lt, ta, tb]
  have heq : (UInt8.ofNat a = UInt8.ofNat b) ↔ a = b := ⟨fun h => by rw [← ta, ← tb, h], fun h => by rw [h]⟩
  simp only [heq]
  rcases Nat.lt_trichotomy a b with h | h | h
  · have hm : P * a + P ≤ P * b := by rw [← Nat.mul_succ]; exact Nat.mul_le_mul_left P h
    refine ⟨?_, by omega⟩
    rw [decide_eq_true (hlt.2 h), decide_eq_true (show x + P * a < y + P * b by omega)]; rfl
  · subst h
    refine ⟨?_, by omega⟩
    have : ¬ UInt8.ofNat a < UInt8.ofNat a := fun h => by have := hlt.1 h; omega
    rw [decide_eq_false this]
    simp
  · have hm : P * b + P ≤ P * a := by rw [← Nat.mul_succ]; exact Nat.mul_le_mul_left P h
    refine ⟨?_, by omega⟩
    have hn : ¬ UInt8.ofNat a < UInt8.ofNat b := fun h' => by have := hlt.1 h'; omega
    have hq : (UInt8.ofNat a == UInt8.ofNat b) = false := by
     have : ¬ UInt8.ofNat a = UInt8.ofNat b := fun h' => by have := heq.1 h'; omega
     simpa using this
    rw [decide_eq_false hn, hq, decide_eq_false (show ¬ x + P * a < y + P * b by omega)]; rfl
theorem bl_term : ∀ (x y a b : List UInt8), (∀ c ∈ x, (0 : UInt8) < c) → (∀ c ∈ y, (0 : UInt8) < c) → bytesLess (x ++ 0 :: a) (y ++ 0 :: b) = (bytesLess x y || (x == y && bytesLess a b))
 | [], [], a, b, _, _ => by simp [bytesLess]
 | [], d :: y, a, b, _, h => by
  have := h d List.mem_cons_self
  simp [bytesLess, this]
 | c :: x, [], a, b, h, _ => by
  have h1 := h c List.mem_cons_self
  have h2 : ¬ c < 0 := fun h' => by rw [UInt8.lt_iff_toNat_lt] at h1 h'; omega
  have h3 : (c == 0) = false := by
   have : ¬ c = 0 := fun e => by rw [e] at h1; rw [UInt8.lt_iff_toNat_lt] at h1; omega
   simpa using this
  simp [bytesLess, h2, h3]
 | c :: x, d :: y, a, b, h1, h2 => by
  have ih := bl_term x y a b (fun e he => h1 e (List.mem_cons_of_mem _ he)) (fun e he => h2 e (List.mem_cons_of_mem _ he))
  simp only [List.cons_append, bytesLess, ih]
  by_cases e : c = d
  · subst e; simp
  · have : (c == d) = false := by simpa using e
    simp [this, e]
structure Stp where
 gen : Nat
 repo : Nat
 label : List UInt8
 num : Nat
 idx : Nat
deriving DecidableEq
def okLabel (l : List UInt8) : Bool := l.all (fun c => decide (97 ≤ c.toNat) && decide (c.toNat ≤ 122)) && decide (1 ≤ l.length) && decide (l.length ≤ 12)
def Stp.ok (s : Stp) : Bool := decide (1 ≤ s.gen) && decide (s.gen ≤ 2 ^ 62) && decide (s.repo < 8) && okLabel s.label && decide (1 ≤ s.num) && decide (s.num ≤ 2 ^ 62) && decide (s.idx < 64)
def Stp.key (s : Stp) : List UInt8 := dig 8 s.gen ++ (dig 1 s.repo ++ (s.label ++ 0 :: (dig 8 s.num ++ dig 1 s.idx)))
def Stp.lt (s t : Stp) : Bool := decide (s.gen < t.gen) || (s.gen == t.gen && (decide (s.repo < t.repo) || (s.repo == t.repo && (bytesLess s.label t.label || (s.label == t.label && (decide (s.num < t.num) || (s.num == t.num && decide (s.idx < t.idx))))))))
theorem okLabel_pos {l : List UInt8} (h : okLabel l = true) : ∀ c ∈ l, (0 : UInt8) < c := fun c hc => by
 unfold okLabel at h
 simp only [Bool.and_eq_true, List.all_eq_true, decide_eq_true_eq] at h
 have := (h.1.1 c hc).1
 rw [UInt8.lt_iff_toNat_lt]
 show 0 < c.toNat
 omega
theorem ok_bounds {s : Stp} (h : s.ok = true) : s.gen % 256 ^ 8 = s.gen ∧ s.repo % 256 ^ 1 = s.repo ∧ s.num % 256 ^ 8 = s.num ∧ s.idx % 256 ^ 1 = s.idx ∧ okLabel s.label = true := by
 unfold Stp.ok at h
 simp only [Bool.and_eq_true, decide_eq_true_eq] at h
 obtain ⟨⟨⟨⟨⟨⟨h1, h2⟩, h3⟩, h4⟩, h5⟩, h6⟩, h7⟩ := h
 refine ⟨Nat.mod_eq_of_lt ?_, Nat.mod_eq_of_lt (by omega), Nat.mod_eq_of_lt ?_, Nat.mod_eq_of_lt (by omega), h4⟩
 · have : (2 : Nat) ^ 62 < 256 ^ 8 := by decide
   omega
 · have : (2 : Nat) ^ 62 < 256 ^ 8 := by decide
   omega
theorem key_lt {s t : Stp} (hs : s.ok = true) (ht : t.ok = true) : bytesLess s.key t.key = s.lt t := by
 obtain ⟨a1, a2, a3, a4, a5⟩ := ok_bounds hs
 obtain ⟨b1, b2, b3, b4, b5⟩ := ok_bounds ht
 have d8 : ∀ n m : Nat, n % 256 ^ 8 = n → m % 256 ^ 8 = m → (dig 8 n == dig 8 m) = (n == m) := fun n m hn hm => by
  have := (dig_lt_eq 8 n m).2
  rw [hn, hm] at this
  by_cases e : n = m
  · subst e; simp
  · have h2 : ¬ dig 8 n = dig 8 m := fun h => e (this.1 h)
    rw [beq_eq_false_iff_ne.2 h2, beq_eq_false_iff_ne.2 e]
 have d1 : ∀ n m : Nat, n % 256 ^ 1 = n → m % 256 ^ 1 = m → (dig 1 n == dig 1 m) = (n == m) := fun n m hn hm => by
  have := (dig_lt_eq 1 n m).2
  rw [hn, hm] at this
  by_cases e : n = m
  · subst e; simp
  · have h2 : ¬ dig 1 n = dig 1 m := fun h => e (this.1 h)
    rw [beq_eq_false_iff_ne.2 h2, beq_eq_false_iff_ne.2 e]
 unfold Stp.key Stp.lt
 rw [bl_append _ _ _ _ (by simp [dig_length]), bl_append _ _ _ _ (by simp [dig_length]), bl_term _ _ _ _ (okLabel_pos a5) (okLabel_pos b5), bl_append _ _ _ _ (by simp [dig_length])]
 rw [(dig_lt_eq 8 s.gen t.gen).1, (dig_lt_eq 1 s.repo t.repo).1, (dig_lt_eq 8 s.num t.num).1, (dig_lt_eq 1 s.idx t.idx).1, a1, a2, a3, a4, b1, b2, b3, b4, d8 _ _ a1 b1, d8 _ _ a3 b3, d1 _ _ a2 b2]
def num8 (l : List UInt8) : Nat := l.foldl (fun n c => 256 * n + c.toNat) 0
theorem num8_dig (k n : Nat) : ∀ acc : Nat, (dig k n).foldl (fun m c => 256 * m + c.toNat) acc = 256 ^ k * acc + n % 256 ^ k := by
 induction k with
 | zero => intro acc; simp [dig, Nat.mod_one]
 | succ k ih =>
  intro acc
  have e1 : n % 256 ^ (k + 1) = n % 256 ^ k + 256 ^ k * (n / 256 ^ k % 256) := by rw [Nat.pow_succ]; exact Nat.mod_mul
  have ta : (UInt8.ofNat (n / 256 ^ k % 256)).toNat = n / 256 ^ k % 256 := by simp [UInt8.toNat_ofNat']
  simp only [dig, List.foldl_cons]
  rw [ih, ta, e1, Nat.pow_succ]
  generalize n / 256 ^ k % 256 = a
  generalize n % 256 ^ k = b
  generalize 256 ^ k = P
  rw [Nat.mul_add, ← Nat.mul_assoc]
  omega
theorem num8_key (n : Nat) (h : n % 256 ^ 8 = n) : num8 (dig 8 n) = n := by
 unfold num8
 rw [num8_dig 8 n 0, h]; simp
theorem num1_key (n : Nat) (h : n % 256 ^ 1 = n) : num8 (dig 1 n) = n := by
 unfold num8
 rw [num8_dig 1 n 0, h]; simp
def parse (l : List UInt8) : Stp := ⟨num8 (l.take 8), num8 ((l.drop 8).take 1), (l.drop 9).take (l.length - 19), num8 ((l.drop (l.length - 9)).take 8), num8 (l.drop (l.length - 1))⟩
theorem key_length (s : Stp) : s.key.length = s.label.length + 19 := by
 unfold Stp.key
 simp [dig_length]
 omega
theorem parse_key {s : Stp} (hs : s.ok = true) : parse s.key = s := by
 obtain ⟨a1, a2, a3, a4, _⟩ := ok_bounds hs
 have hl := key_length s
 have e0 : s.key.length - 19 = s.label.length := by omega
 have e9 : s.key.length - 9 = 8 + (1 + (s.label.length + 1)) := by omega
 have e1 : s.key.length - 1 = 8 + (1 + (s.label.length + 1 + 8)) := by omega
 unfold parse
 rw [e0, e9, e1]
 have k1 : s.key.take 8 = dig 8 s.gen := by
  unfold Stp.key
  exact List.take_left' (dig_length 8 _)
 have d8 : s.key.drop 8 = dig 1 s.repo ++ (s.label ++ 0 :: (dig 8 s.num ++ dig 1 s.idx)) := by
  unfold Stp.key
  exact List.drop_left' (dig_length 8 _)
 have d9 : s.key.drop 9 = s.label ++ 0 :: (dig 8 s.num ++ dig 1 s.idx) := by
  rw [show 9 = 8 + 1 from rfl, ← List.drop_drop, d8]
  exact List.drop_left' (dig_length 1 _)
 have dl : s.key.drop (8 + (1 + (s.label.length + 1))) = dig 8 s.num ++ dig 1 s.idx := by
  rw [← List.drop_drop, d8, ← List.drop_drop, List.drop_left' (dig_length 1 _), show s.label ++ 0 :: (dig 8 s.num ++ dig 1 s.idx) = (s.label ++ [0]) ++ (dig 8 s.num ++ dig 1 s.idx) by simp]
  exact List.drop_left' (by simp)
 have dx : s.key.drop (8 + (1 + (s.label.length + 1 + 8))) = dig 1 s.idx := by
  rw [show 8 + (1 + (s.label.length + 1 + 8)) = 8 + (1 + (s.label.length + 1)) + 8 by omega, ← List.drop_drop, dl]
  exact List.drop_left' (dig_length 8 _)
 rw [k1, d8, d9, dl, dx, List.take_left' (dig_length 1 _), List.take_left' rfl, List.take_left' (dig_length 8 _), num8_key _ a1, num1_key _ a2, num8_key _ a3, num1_key _ a4]
def okKey (l : List UInt8) : Bool := decide (19 ≤ l.length) && (parse l).ok && decide ((parse l).key = l)
theorem okKey_iff {l : List UInt8} : okKey l = true ↔ ∃ s : Stp, s.ok = true ∧ s.key = l := by
 unfold okKey
 simp only [Bool.and_eq_true, decide_eq_true_eq]
 constructor
 · rintro ⟨⟨_, h1⟩, h2⟩
   exact ⟨parse l, h1, h2⟩
 · rintro ⟨s, h1, rfl⟩
   rw [parse_key h1, key_length]
   exact ⟨⟨by omega, h1⟩, rfl⟩
end St
end Go.Proofs.YtjlliohjeiclaaaGreatDoor
namespace Go.Proofs.YtjlliohjeiclaaaGreatDoor
namespace St
open Pm
abbrev El := Stp × ByteArray
def keyB (s : Stp) : ByteArray := ⟨s.key.toArray⟩
theorem keyB_klt {s t : Stp} (hs : s.ok = true) (ht : t.ok = true) : klt (keyB s) (keyB t) = s.lt t := by
 rw [← key_lt hs ht]
 unfold klt keyB
 rw [ByteArray.toList_eq, ByteArray.toList_eq]
theorem lt_irrefl {s : Stp} (hs : s.ok = true) : s.lt s = false := by rw [← keyB_klt hs hs]; exact klt_irrefl _
theorem lt_trans {s t u : Stp} (hs : s.ok = true) (ht : t.ok = true) (hu : u.ok = true) (h : s.lt t = true) (k : t.lt u = true) : s.lt u = true := by
 rw [← keyB_klt hs ht] at h
 rw [← keyB_klt ht hu] at k
 rw [← keyB_klt hs hu]
 exact klt_trans h k
def enc (e : El) : ByteArray × ByteArray := (keyB e.1, e.2)
def okE (e : El) : Bool := e.1.ok && decide (e.2.size ≤ 256)
end St
end Go.Proofs.YtjlliohjeiclaaaGreatDoor
namespace Go.Proofs.YtjlliohjeiclaaaGreatDoor
namespace St
open Pm
structure Sv where
 g : Int
 r : Int
 l : ByteArray
 n : Int
 i : Int
deriving DecidableEq
def okBr (r : Int) (l : ByteArray) : Bool := decide (0 ≤ r) && decide (r < 8) && okLabel l.data.toList
def okNm (r : Int) (l : ByteArray) (n : Int) : Bool := okBr r l && decide (1 ≤ n) && decide (n ≤ 4611686018427387904)
def Sv.ok (s : Sv) : Bool := decide (1 ≤ s.g) && decide (s.g ≤ 4611686018427387904) && okNm s.r s.l s.n && decide (0 ≤ s.i) && decide (s.i < 64)
def Sv.st (s : Sv) : Stp := ⟨s.g.toNat, s.r.toNat, s.l.data.toList, s.n.toNat, s.i.toNat⟩
def Stp.sv (s : Stp) : Sv := ⟨s.gen, s.repo, ⟨s.label.toArray⟩, s.num, s.idx⟩
theorem Sv.ok_iff {s : Sv} : s.ok = true ↔ 1 ≤ s.g ∧ s.g ≤ 4611686018427387904 ∧ 0 ≤ s.r ∧ s.r < 8 ∧ okLabel s.l.data.toList = true ∧ 1 ≤ s.n ∧ s.n ≤ 4611686018427387904 ∧ 0 ≤ s.i ∧ s.i < 64 := by
 unfold Sv.ok okNm okBr
 simp only [Bool.and_eq_true, decide_eq_true_eq, and_assoc]
theorem Stp.ok_iff {s : Stp} : s.ok = true ↔ 1 ≤ s.gen ∧ s.gen ≤ 4611686018427387904 ∧ s.repo < 8 ∧ okLabel s.label = true ∧ 1 ≤ s.num ∧ s.num ≤ 4611686018427387904 ∧ s.idx < 64 := by
 unfold Stp.ok
 simp only [Bool.and_eq_true, decide_eq_true_eq, and_assoc]
 try rw [show (2 : Nat) ^ 62 = 4611686018427387904 by decide]
theorem Sv.ok_st {s : Sv} (h : s.ok = true) : s.st.ok = true ∧ s.st.sv = s := by
 obtain ⟨h1, h2, h3, h4, h5, h6, h7, h8, h9⟩ := Sv.ok_iff.1 h
 refine ⟨Stp.ok_iff.2 ⟨?_, ?_, ?_, h5, ?_, ?_, ?_⟩, ?_⟩
 · show 1 ≤ s.g.toNat; omega
 · show s.g.toNat ≤ _; omega
 · show s.r.toNat < 8; omega
 · show 1 ≤ s.n.toNat; omega
 · show s.n.toNat ≤ _; omega
 · show s.i.toNat < 64; omega
 · obtain ⟨g, r, l, n, i⟩ := s
   simp only [Sv.st, Stp.sv, Sv.mk.injEq] at *
   exact ⟨by omega, by omega, by trivial, by omega, by omega⟩
theorem Stp.ok_sv {s : Stp} (h : s.ok = true) : s.sv.ok = true ∧ s.sv.st = s := by
 obtain ⟨h1, h2, h3, h4, h5, h6, h7⟩ := Stp.ok_iff.1 h
 refine ⟨Sv.ok_iff.2 ⟨?_, ?_, ?_, ?_, by simpa [Stp.sv] using h4, ?_, ?_, ?_, ?_⟩, ?_⟩
 · show (1 : Int) ≤ (s.gen : Int); omega
 · show (s.gen : Int) ≤ _; omega
 · show (0 : Int) ≤ (s.repo : Int); omega
 · show (s.repo : Int) < 8; omega
 · show (1 : Int) ≤ (s.num : Int); omega
 · show (s.num : Int) ≤ _; omega
 · show (0 : Int) ≤ (s.idx : Int); omega
 · show (s.idx : Int) < 64; omega
 · cases s; simp [Stp.sv, Sv.st]
def numC (a b : Int) : Int := if a < b then -1 else if a > b then 1 else 0
def txtC (a b : ByteArray) : Int := if klt a b = true then -1 else if klt b a = true then 1 else 0
def firstC (a b : Int) : Int := if a = 0 then b else a
def brC (r1 : Int) (l1 : ByteArray) (r2 : Int) (l2 : ByteArray) : Int := firstC (numC r1 r2) (txtC l1 l2)
def nmC (r1 : Int) (l1 : ByteArray) (n1 : Int) (r2 : Int) (l2 : ByteArray) (n2 : Int) : Int := firstC (brC r1 l1 r2 l2) (numC n1 n2)
def svC (s t : Sv) : Int := firstC (firstC (numC s.g t.g) (nmC s.r s.l s.n t.r t.l t.n)) (numC s.i t.i)
theorem svC_lt {s t : Sv} (hs : s.ok = true) (ht : t.ok = true) : decide (svC s t < 0) = s.st.lt t.st := by
 obtain ⟨h1, h2, h3, h4, h5, h6, h7, h8, h9⟩ := Sv.ok_iff.1 hs
 obtain ⟨k1, k2, k3, k4, k5, k6, k7, k8, k9⟩ := Sv.ok_iff.1 ht
 obtain ⟨g, r, l, n, i⟩ := s
 obtain ⟨g', r', l', n', i'⟩ := t
 simp only [Sv.st, Stp.lt] at *
 have c : ∀ a b : Int, 0 ≤ a → 0 ≤ b → (numC a b < 0 ↔ a.toNat < b.toNat) ∧ (numC a b = 0 ↔ a.toNat = b.toNat) := fun a b ha hb => by
  unfold numC
  split
  · constructor <;> omega
  · split <;> constructor <;> omega
 have ct : (txtC l l' < 0 ↔ Op.bytesLess l.data.toList l'.data.toList = true) ∧ (txtC l l' = 0 ↔ l.data.toList = l'.data.toList) := by
  have e1 : klt l l' = Op.bytesLess l.data.toList l'.data.toList := by unfold klt; rw [ByteArray.toList_eq, ByteArray.toList_eq]
  unfold txtC
  rw [← e1]
  cases h : klt l l' with
  | true =>
   rw [if_pos rfl]
   refine ⟨by simp, ⟨fun h' => by simp at h', fun h' => ?_⟩⟩
   rw [key_ext h', klt_irrefl] at h; cases h
  | false =>
   rw [if_neg (by simp)]
   cases h' : klt l' l with
   | true =>
    rw [if_pos rfl]
    refine ⟨by simp, ⟨fun h'' => by simp at h'', fun h'' => ?_⟩⟩
    rw [key_ext h'', klt_irrefl] at h'; cases h'
   | false =>
    rw [if_neg (by simp)]
    exact ⟨by simp, fun _ => by rw [klt_tri h h'], fun _ => rfl⟩
 obtain ⟨a1, a2⟩ := c g g' (by omega) (by omega)
 obtain ⟨b1, b2⟩ := c r r' (by omega) (by omega)
 obtain ⟨d1, d2⟩ := c n n' (by omega) (by omega)
 obtain ⟨e1, e2⟩ := c i i' (by omega) (by omega)
 obtain ⟨t1, t2⟩ := ct
 unfold svC nmC brC firstC
 rw [Bool.eq_iff_iff]
 simp only [decide_eq_true_eq, Bool.or_eq_true, Bool.and_eq_true, beq_iff_eq, ← a1, ← a2, ← b1, ← b2, ← d1, ← d2, ← e1, ← e2, ← t1, ← t2]
 generalize numC g g' = x1 at *
 generalize numC r r' = x2 at *
 generalize txtC l l' = x3 at *
 generalize numC n n' = x4 at *
 generalize numC i i' = x5 at *
 by_cases y1 : x1 = 0
 · by_cases y2 : x2 = 0
   · by_cases y3 : x3 = 0
     · by_cases y4 : x4 = 0
       · simp [y1, y2, y3, y4]
       · simp [y1, y2, y3, y4]
     · simp [y1, y2, y3]
   · simp [y1, y2]
 · simp [y1]
end St
end Go.Proofs.YtjlliohjeiclaaaGreatDoor
namespace Go.Proofs.YtjlliohjeiclaaaGreatDoor
namespace Pm
section
variable {α : Type}
def rn (N : Nat) : Tr α → Prop
 | .nil => False
 | .node b _ _ _ _ => N ≤ b
def hv (N : Nat) : Tr α → Prop
 | .nil => False
 | .node _ l _ _ r => (ht r < ht l ∧ rn N l) ∨ (ht l < ht r ∧ rn N r)
end
end Pm
end Go.Proofs.YtjlliohjeiclaaaGreatDoor
namespace Go.Proofs.YtjlliohjeiclaaaGreatDoor
namespace Pm
section
variable {α : Type}
def lk (z : α) : List (ByteArray × α) → ByteArray → α × Bool
 | [], _ => (z, false)
 | x :: l, k => if x.1 = k then (x.2, true) else lk z l k
theorem lk_none {z : α} {l : List (ByteArray × α)} {k : ByteArray} (h : ∀ x ∈ l, x.1 ≠ k) : lk z l k = (z, false) := by
 induction l with
 | nil => rfl
 | cons x l ih =>
  simp only [lk]
  rw [if_neg (h x List.mem_cons_self)]
  exact ih fun y hy => h y (List.mem_cons_of_mem _ hy)
theorem lk_left {z : α} {l m : List (ByteArray × α)} {k : ByteArray} (h : ∀ x ∈ m, x.1 ≠ k) : lk z (l ++ m) k = lk z l k := by
 induction l with
 | nil => exact lk_none h
 | cons x l ih =>
  simp only [List.cons_append, lk]
  rw [ih]
theorem lk_right {z : α} {l m : List (ByteArray × α)} {k : ByteArray} (h : ∀ x ∈ l, x.1 ≠ k) : lk z (l ++ m) k = lk z m k := by
 induction l with
 | nil => rfl
 | cons x l ih =>
  simp only [List.cons_append, lk]
  rw [if_neg (h x List.mem_cons_self)]
  exact ih fun y hy => h y (List.mem_cons_of_mem _ hy)
def nrm (z : α) (p : α × Bool) : α × Bool := if p.2 = true then p else (z, false)
theorem split_lt {N : Nat} {k : ByteArray} {t a x c : Tr α} (h : SplitR N k t a x c) (hs : Srt (items t)) : (∀ y ∈ items a, klt y.1 k = true) ∧ (∀ y ∈ items c, klt k y.1 = true) := by
 induction h with
 | nil => exact ⟨fun y hy => (by cases hy), fun y hy => (by cases hy)⟩
 | lt h1 h2 h3 ih =>
  obtain ⟨s1, s2, s3⟩ := srt_append.1 hs
  obtain ⟨s4, s5⟩ := srt_cons.1 s2
  obtain ⟨i1, i2⟩ := ih s1
  refine ⟨i1, fun y hy => ?_⟩
  rw [h3.items] at hy
  rcases List.mem_append.1 hy with hy | hy
  · exact i2 y hy
  · rcases List.mem_cons.1 hy with rfl | hy
    · exact h1
    · exact klt_trans h1 (s4 y hy)
 | gt h1 h2 h3 ih =>
  obtain ⟨s1, s2, s3⟩ := srt_append.1 hs
  obtain ⟨s4, s5⟩ := srt_cons.1 s2
  obtain ⟨i1, i2⟩ := ih s5
  refine ⟨fun y hy => ?_, i2⟩
  rw [h3.items] at hy
  rcases List.mem_append.1 hy with hy | hy
  · exact klt_trans (s3 y hy _ List.mem_cons_self) h1
  · rcases List.mem_cons.1 hy with rfl | hy
    · exact h1
    · exact i1 y hy
 | eq h1 =>
  subst h1
  obtain ⟨s1, s2, s3⟩ := srt_append.1 hs
  obtain ⟨s4, s5⟩ := srt_cons.1 s2
  exact ⟨fun y hy => s3 y hy _ List.mem_cons_self, fun y hy => s4 y hy⟩
theorem split_mid {N : Nat} {k : ByteArray} {t a x c : Tr α} (h : SplitR N k t a x c) : here x = [] ∨ ∃ v, here x = [(k, v)] := by
 rw [h.seek]
 cases e : Pm.seek k t with
 | nil => exact .inl rfl
 | node b l k0 v0 r =>
  obtain ⟨rfl, _⟩ := seek_some e
  exact .inr ⟨v0, rfl⟩
structure Parts (z : α) (k : ByteArray) (t a x c : Tr α) : Prop where
 sa : Srt (items a)
 sc : Srt (items c)
 la : ∀ y ∈ items a, klt y.1 k = true
 lc : ∀ y ∈ items c, klt k y.1 = true
 ea : ∀ q, klt q k = true → lk z (items a) q = lk z (items t) q
 ec : ∀ q, klt k q = true → lk z (items c) q = lk z (items t) q
 ma : ∀ y ∈ items a, y ∈ items t
 mc : ∀ y ∈ items c, y ∈ items t
 ex : lk z (items t) k = lk z (here x) k
 sz : sz t = sz a + (here x).length + sz c
theorem SplitR.parts {N : Nat} {k : ByteArray} {t a x c : Tr α} (z : α) (h : SplitR N k t a x c) (hs : Srt (Pm.items t)) : Parts z k t a x c := by
 obtain ⟨h1, h2⟩ := split_lt h hs
 have hi := h.items
 have hm := split_mid h
 have hx : ∀ y ∈ here x, y.1 = k := by
  rcases hm with e | ⟨v, e⟩
  · rw [e]; intro y hy; cases hy
  · rw [e]; intro y hy; rw [List.mem_singleton.1 hy]
 have hs0 := hs
 rw [hi, List.append_assoc] at hs
 obtain ⟨s1, s2, _⟩ := srt_append.1 hs
 obtain ⟨_, s3, _⟩ := srt_append.1 s2
 refine ⟨s1, s3, h1, h2, fun q hq => ?_, fun q hq => ?_, fun y hy => ?_, fun y hy => ?_, ?_, ?_⟩
 · rw [hi, List.append_assoc, lk_left]
   intro y hy
   rcases List.mem_append.1 hy with hy | hy
   · rw [hx y hy]; exact Ne.symm (klt_ne hq)
   · exact Ne.symm (klt_ne (klt_trans hq (h2 y hy)))
 · rw [hi, lk_right]
   intro y hy
   rcases List.mem_append.1 hy with hy | hy
   · exact klt_ne (klt_trans (h1 y hy) hq)
   · rw [hx y hy]; exact klt_ne hq
 · rw [hi]; exact List.mem_append_left _ (List.mem_append_left _ hy)
 · rw [hi]; exact List.mem_append_right _ hy
 · rw [hi, List.append_assoc, lk_right (fun y hy => klt_ne (h1 y hy)), lk_left (fun y hy => Ne.symm (klt_ne (h2 y hy)))]
 · rw [← sz_items, hi, ← sz_items a, ← sz_items c]; simp; omega
def Dj (s a : Tr α) : Prop := ∀ b ∈ blocks s, b ∉ blocks a
structure WlkI (z : α) (B0 A0 O0 : ByteArray → α × Bool) (C : ByteArray → Prop) (s a o : Tr α) : Prop where
 ss : Srt (items s)
 sa : Srt (items a)
 so : Srt (items o)
 bs : Bal s
 ba : Bal a
 bo : Bal o
 es : ∀ k, C k → lk z (items s) k = B0 k
 ea : ∀ k, C k → lk z (items a) k = A0 k
 eo : ∀ k, C k → lk z (items o) k = O0 k
 ins : ∀ x ∈ items s, C x.1
 ina : ∀ x ∈ items a, C x.1
 ino : ∀ x ∈ items o, C x.1
structure WlkO (z : α) (R B0 A0 O0 : ByteArray → α × Bool) (C : ByteArray → Prop) (s a o m : Tr α) (asked : List ByteArray) : Prop where
 srt : Srt (items m)
 bal : Bal m
 inC : ∀ x ∈ items m, C x.1
 nd : asked.Nodup
 sub : ∀ k ∈ asked, C k ∧ ((A0 k).2 = true ∨ (O0 k).2 = true)
 len : asked.length ≤ sz a + sz o
 siz : sz m ≤ sz a + sz o
 ans : ∀ k, C k → (k ∈ asked ∧ lk z (items m) k = nrm z (R k)) ∨ (k ∉ asked ∧ (((A0 k = O0 k ∨ B0 k = O0 k) ∧ lk z (items m) k = A0 k) ∨ (B0 k = A0 k ∧ lk z (items m) k = O0 k ∧ (Dj s a → (B0 k).2 = false))))
variable {z : α} {R B0 A0 O0 : ByteArray → α × Bool} {C : ByteArray → Prop} {s a o : Tr α}
theorem WlkI.left {key : ByteArray} {sl sx sr al ax ar ol ox or' : Tr α} {N1 N2 N3 : Nat} (h : WlkI z B0 A0 O0 C s a o) (h1 : SplitR N1 key s sl sx sr) (h2 : SplitR N2 key a al ax ar) (h3 : SplitR N3 key o ol ox or') :
 WlkI z B0 A0 O0 (fun k => C k ∧ klt k key = true) sl al ol ∧ WlkI z B0 A0 O0 (fun k => C k ∧ klt key k = true) sr ar or' := by
 have p1 := h1.parts z h.ss
 have p2 := h2.parts z h.sa
 have p3 := h3.parts z h.so
 exact ⟨⟨p1.sa, p2.sa, p3.sa, (h1.bal h.bs).1, (h2.bal h.ba).1, (h3.bal h.bo).1, fun k hk => (p1.ea k hk.2).trans (h.es k hk.1), fun k hk => (p2.ea k hk.2).trans (h.ea k hk.1), fun k hk => (p3.ea k hk.2).trans (h.eo k hk.1),
  fun x hx => ⟨h.ins x (p1.ma x hx), p1.la x hx⟩, fun x hx => ⟨h.ina x (p2.ma x hx), p2.la x hx⟩, fun x hx => ⟨h.ino x (p3.ma x hx), p3.la x hx⟩⟩,
  ⟨p1.sc, p2.sc, p3.sc, (h1.bal h.bs).2, (h2.bal h.ba).2, (h3.bal h.bo).2, fun k hk => (p1.ec k hk.2).trans (h.es k hk.1), fun k hk => (p2.ec k hk.2).trans (h.ea k hk.1), fun k hk => (p3.ec k hk.2).trans (h.eo k hk.1),
  fun x hx => ⟨h.ins x (p1.mc x hx), p1.lc x hx⟩, fun x hx => ⟨h.ina x (p2.mc x hx), p2.lc x hx⟩, fun x hx => ⟨h.ino x (p3.mc x hx), p3.lc x hx⟩⟩⟩
theorem said_up {m l : List (ByteArray × α)} {asked ks : List ByteArray} {s a s' a' : Tr α} {k : ByteArray} (hl : lk z m k = lk z l k) (ha : k ∈ asked ↔ k ∈ ks) (hd : Dj s a → Dj s' a')
 (h : (k ∈ ks ∧ lk z l k = nrm z (R k)) ∨ (k ∉ ks ∧ (((A0 k = O0 k ∨ B0 k = O0 k) ∧ lk z l k = A0 k) ∨ (B0 k = A0 k ∧ lk z l k = O0 k ∧ (Dj s' a' → (B0 k).2 = false))))) :
 (k ∈ asked ∧ lk z m k = nrm z (R k)) ∨ (k ∉ asked ∧ (((A0 k = O0 k ∨ B0 k = O0 k) ∧ lk z m k = A0 k) ∨ (B0 k = A0 k ∧ lk z m k = O0 k ∧ (Dj s a → (B0 k).2 = false)))) := by
 rw [hl, ha]
 rcases h with h | ⟨h1, h | ⟨h2, h3, h4⟩⟩
 · exact .inl h
 · exact .inr ⟨h1, .inl h⟩
 · exact .inr ⟨h1, .inr ⟨h2, h3, fun h => h4 (hd h)⟩⟩
theorem WlkO.step {key : ByteArray} {sl sx sr al ax ar ol ox or' l r m : Tr α} {as1 as2 : List ByteArray} {N1 N2 N3 : Nat} (h : WlkI z B0 A0 O0 C s a o) (hk : C key)
 (hx : 1 ≤ (here ax).length + (here ox).length)
 (h1 : SplitR N1 key s sl sx sr) (h2 : SplitR N2 key a al ax ar) (h3 : SplitR N3 key o ol ox or') (hd : Dj s a → Dj sl al ∧ Dj sr ar)
 (o1 : WlkO z R B0 A0 O0 (fun k => C k ∧ klt k key = true) sl al ol l as1) (o2 : WlkO z R B0 A0 O0 (fun k => C k ∧ klt key k = true) sr ar or' r as2)
 (hm : items m = items l ++ ((if (R key).2 = true then [(key, (R key).1)] else []) ++ items r)) (hb : Bal m) : WlkO z R B0 A0 O0 C s a o m (as1 ++ as2 ++ [key]) := by
 have p2 := h2.parts z h.sa
 have p3 := h3.parts z h.so
 have l1 : ∀ k ∈ as1, klt k key = true := fun k hk => (o1.sub k hk).1.2
 have l2 : ∀ k ∈ as2, klt key k = true := fun k hk => (o2.sub k hk).1.2
 have hmid : ∀ y ∈ (if (R key).2 = true then [(key, (R key).1)] else [] : List (ByteArray × α)), y.1 = key := by
  intro y hy
  split at hy
  · rw [List.mem_singleton.1 hy]
  · cases hy
 have hml : (if (R key).2 = true then [(key, (R key).1)] else [] : List (ByteArray × α)).length ≤ 1 := by split <;> simp
 generalize hq : (if (R key).2 = true then [(key, (R key).1)] else [] : List (ByteArray × α)) = mid at *
 refine ⟨?_, hb, ?_, ?_, ?_, ?_, ?_, ?_⟩
 · rw [hm]
   refine srt_append.2 ⟨o1.srt, srt_append.2 ⟨?_, o2.srt, fun x hx y hy => ?_⟩, fun x hx y hy => ?_⟩
   · rw [← hq]; split <;> simp [Srt]
   · rw [hmid x hx]; exact (o2.inC y hy).2
   · rcases List.mem_append.1 hy with hy | hy
     · rw [hmid y hy]; exact (o1.inC x hx).2
     · exact klt_trans (o1.inC x hx).2 (o2.inC y hy).2
 · intro x hx
   rw [hm] at hx
   rcases List.mem_append.1 hx with hx | hx
   · exact (o1.inC x hx).1
   · rcases List.mem_append.1 hx with hx | hx
     · rw [hmid x hx]; exact hk
     · exact (o2.inC x hx).1
 · rw [List.nodup_append, List.nodup_append]
   refine ⟨⟨o1.nd, o2.nd, fun x hx y hy e => ?_⟩, by simp, fun x hx y hy e => ?_⟩
   · subst e; have := klt_trans (l1 x hx) (l2 x hy); rw [klt_irrefl] at this; cases this
   · rw [List.mem_singleton.1 hy] at e
     subst e
     rcases List.mem_append.1 hx with hx | hx
     · have := l1 x hx; rw [klt_irrefl] at this; cases this
     · have := l2 x hx; rw [klt_irrefl] at this; cases this
 · intro k hk'
   rcases List.mem_append.1 hk' with hk' | hk'
   · rcases List.mem_append.1 hk' with hk' | hk'
     · exact ⟨(o1.sub k hk').1.1, (o1.sub k hk').2⟩
     · exact ⟨(o2.sub k hk').1.1, (o2.sub k hk').2⟩
   · rw [List.mem_singleton.1 hk']
     refine ⟨hk, ?_⟩
     have e2 : lk z (here ax) key = A0 key := by rw [← p2.ex]; exact h.ea key hk
     have e3 : lk z (here ox) key = O0 key := by rw [← p3.ex]; exact h.eo key hk
     rcases split_mid h2 with e | ⟨v, e⟩
     · rcases split_mid h3 with e' | ⟨v, e'⟩
       · rw [e, e'] at hx; simp at hx
       · right; rw [← e3, e']; simp [lk]
     · left; rw [← e2, e]; simp [lk]
 · have := o1.len; have := o2.len; have := p2.sz; have := p3.sz
   simp only [List.length_append, List.length_cons, List.length_nil]
   omega
 · have e1 : sz m = sz l + mid.length + sz r := by rw [← sz_items, hm, ← sz_items l, ← sz_items r]; simp; omega
   have := o1.siz; have := o2.siz; have := p2.sz; have := p3.sz
   omega
 · intro k hC
   by_cases hlt : klt k key = true
   · refine said_up (l := items l) (ks := as1) ?_ ?_ (fun h => (hd h).1) (o1.ans k ⟨hC, hlt⟩)
     · rw [hm, lk_left]
       intro y hy
       rcases List.mem_append.1 hy with hy | hy
       · rw [hmid y hy]; exact Ne.symm (klt_ne hlt)
       · exact Ne.symm (klt_ne (klt_trans hlt (o2.inC y hy).2))
     · simp only [List.mem_append, List.mem_singleton]
       constructor
       · rintro ((h | h) | h)
         · exact h
         · have := klt_trans hlt (l2 k h); rw [klt_irrefl] at this; cases this
         · exact absurd h (klt_ne hlt)
       · intro h; exact .inl (.inl h)
   · by_cases hgt : klt key k = true
     · refine said_up (l := items r) (ks := as2) ?_ ?_ (fun h => (hd h).2) (o2.ans k ⟨hC, hgt⟩)
       · rw [hm, lk_right (fun y hy => klt_ne (klt_trans (o1.inC y hy).2 hgt)), lk_right]
         intro y hy; rw [hmid y hy]; exact klt_ne hgt
       · simp only [List.mem_append, List.mem_singleton]
         constructor
         · rintro ((h | h) | h)
           · have := klt_trans (l1 k h) hgt; rw [klt_irrefl] at this; cases this
           · exact h
           · exact absurd h.symm (klt_ne hgt)
         · intro h; exact .inl (.inr h)
     · have e := klt_tri (by simpa using hlt) (by simpa using hgt)
       subst e
       refine .inl ⟨by simp, ?_⟩
       rw [hm, lk_right (fun y hy => klt_ne (o1.inC y hy).2), lk_left (fun y hy => Ne.symm (klt_ne (o2.inC y hy).2)), ← hq]
       unfold nrm
       split
       · simp [lk]; exact Prod.ext rfl (by simpa using (‹(R k).2 = true›).symm)
       · rfl
theorem WlkO.all {m : Tr α} {asked : List ByteArray} (h : WlkO z R B0 A0 O0 C s a o m asked) (k : ByteArray) (hk : C k) (h1 : A0 k = O0 k ∨ B0 k = O0 k → nrm z (R k) = A0 k) (h2 : B0 k = A0 k → nrm z (R k) = O0 k ∨ (Dj s a ∧ (B0 k).2 = true)) : lk z (items m) k = nrm z (R k) := by
 rcases h.ans k hk with ⟨_, h⟩ | ⟨_, ⟨h3, h4⟩ | ⟨h3, h4, h5⟩⟩
 · exact h
 · rw [h4, h1 h3]
 · rcases h2 h3 with h6 | ⟨h6, h7⟩
   · rw [h4, h6]
   · rw [h5 h6] at h7; cases h7
end
end Pm
end Go.Proofs.YtjlliohjeiclaaaGreatDoor
namespace Go.Proofs.YtjlliohjeiclaaaGreatDoor
namespace St
open Pm
abbrev Ev := Sv × ByteArray
def toV (e : El) : Ev := (e.1.sv, e.2)
def toE (e : Ev) : El := (e.1.st, e.2)
def okV (e : Ev) : Bool := e.1.ok && decide (e.2.size ≤ 256)
theorem okE_iff {e : El} : okE e = true ↔ e.1.ok = true ∧ e.2.size ≤ 256 := by
 unfold okE
 simp only [Bool.and_eq_true, decide_eq_true_eq]
theorem okV_iff {e : Ev} : okV e = true ↔ e.1.ok = true ∧ e.2.size ≤ 256 := by
 unfold okV
 simp only [Bool.and_eq_true, decide_eq_true_eq]
theorem okV_toE {e : Ev} (h : okV e = true) : okE (toE e) = true ∧ toV (toE e) = e := by
 obtain ⟨h1, h2⟩ := okV_iff.1 h
 obtain ⟨k1, k2⟩ := Sv.ok_st h1
 exact ⟨okE_iff.2 ⟨k1, h2⟩, by unfold toV toE; rw [k2]⟩
def mayV (l : List Ev) : Bool := l.all okV && decide ((l.map (·.1)).Nodup)
theorem mayV_iff {l : List Ev} : mayV l = true ↔ (∀ x ∈ l, okV x = true) ∧ (l.map (·.1)).Nodup := by
 unfold mayV
 simp only [Bool.and_eq_true, List.all_eq_true, decide_eq_true_eq]
theorem mayV_nil : mayV [] = true := by simp [mayV]
theorem mayV_snoc {l : List Ev} {x : Ev} : mayV (l ++ [x]) = true ↔ mayV l = true ∧ okV x = true ∧ ∀ y ∈ l, y.1 ≠ x.1 := by
 rw [mayV_iff, mayV_iff]
 simp only [List.mem_append, List.mem_singleton, List.map_append, List.map_cons, List.map_nil, List.nodup_append, List.mem_map]
 constructor
 · rintro ⟨h1, h2, _, h3⟩
   exact ⟨⟨fun y hy => h1 y (.inl hy), h2⟩, h1 x (.inr rfl), fun y hy => h3 _ ⟨y, hy, rfl⟩ _ rfl⟩
 · rintro ⟨⟨h1, h2⟩, h3, h4⟩
   refine ⟨fun y hy => ?_, h2, by simp, ?_⟩
   · rcases hy with hy | rfl
     · exact h1 y hy
     · exact h3
   · rintro _ ⟨y, hy, rfl⟩ _ rfl
     exact h4 y hy
theorem mayV_left {l m : List Ev} (h : mayV (l ++ m) = true) : mayV l = true := by
 rw [mayV_iff] at h ⊢
 rw [List.map_append, List.nodup_append] at h
 exact ⟨fun x hx => h.1 x (List.mem_append_left _ hx), h.2.1⟩
def aheadV (x y : Ev) : Bool := decide (svC y.1 x.1 < 0) || (decide (y.1 = x.1) && klt y.2 x.2)
def insV (x : Ev) (l : List Ev) : List Ev := l.takeWhile (aheadV x) ++ x :: l.dropWhile (aheadV x)
def sortV (l : List Ev) : List Ev := l.foldl (fun out x => insV x out) []
theorem insV_mem {x y : Ev} {l : List Ev} : y ∈ insV x l ↔ y = x ∨ y ∈ l := by
 unfold insV
 rw [List.mem_append, List.mem_cons]
 constructor
 · rintro (h | h | h)
   · exact .inr ((List.takeWhile_prefix _).subset h)
   · exact .inl h
   · exact .inr ((List.dropWhile_suffix _).subset h)
 · rintro (h | h)
   · exact .inr (.inl h)
   · rw [← List.takeWhile_append_dropWhile (p := aheadV x) (l := l)] at h
     rcases List.mem_append.1 h with h | h
     · exact .inl h
     · exact .inr (.inr h)
theorem insV_length (x : Ev) (l : List Ev) : (insV x l).length = l.length + 1 := by
 unfold insV
 have := congrArg List.length (List.takeWhile_append_dropWhile (p := aheadV x) (l := l))
 rw [List.length_append] at this
 rw [List.length_append, List.length_cons]
 omega
theorem sortV_snoc (l : List Ev) (x : Ev) : sortV (l ++ [x]) = insV x (sortV l) := by
 unfold sortV
 rw [List.foldl_append]
 rfl
theorem sortV_length (l : List Ev) : (sortV l).length = l.length := by
 have : ∀ (l o : List Ev), (l.foldl (fun out x => insV x out) o).length = o.length + l.length := by
  intro l
  induction l with
  | nil => intro o; simp
  | cons x l ih => intro o; rw [List.foldl_cons, ih, insV_length, List.length_cons]; omega
 have := this l []
 unfold sortV
 simpa using this
theorem sortV_mem {l : List Ev} {x : Ev} : x ∈ sortV l ↔ x ∈ l := by
 have : ∀ (l o : List Ev), x ∈ (l.foldl (fun out x => insV x out) o) ↔ x ∈ l ∨ x ∈ o := by
  intro l
  induction l with
  | nil => intro o; simp
  | cons y l ih =>
   intro o
   rw [List.foldl_cons, ih, insV_mem, List.mem_cons]
   constructor
   · rintro (h | h | h)
     · exact .inl (.inr h)
     · exact .inl (.inl h)
     · exact .inr h
   · rintro ((h | h) | h)
     · exact .inr (.inl h)
     · exact .inl h
     · exact .inr (.inr h)
 have := this l []
 unfold sortV
 simpa using this
def behindV (l : List Ev) (s : Sv) : Bool := match l.getLast? with
 | none => true
 | some x => decide (svC x.1 s < 0)
end St
end Go.Proofs.YtjlliohjeiclaaaGreatDoor
namespace Go.Proofs.YtjlliohjeiclaaaGreatDoor
namespace St
open Pm
theorem numC_neg (a b : Int) : numC b a = - numC a b := by
 unfold numC
 split <;> split <;> first | omega | (split <;> omega) | skip
theorem txtC_neg (a b : ByteArray) : txtC b a = - txtC a b := by
 unfold txtC
 cases h : klt a b with
 | true => rw [klt_asymm h]; simp
 | false => cases h' : klt b a <;> simp
theorem firstC_neg (a b : Int) : firstC (-a) (-b) = - firstC a b := by
 unfold firstC
 by_cases h : a = 0
 · rw [if_pos (by omega), if_pos h]
 · rw [if_neg (by omega), if_neg h]
section
variable {A B a b : List El} {x y : El}
end
end St
end Go.Proofs.YtjlliohjeiclaaaGreatDoor
namespace Go.Proofs.YtjlliohjeiclaaaGreatDoor
namespace Kn
open St Pm
structure Ord3 {α : Type} (c : α → α → Int) : Prop where
 neg : ∀ x y, c y x = - c x y
 rng : ∀ x y, c x y = -1 ∨ c x y = 0 ∨ c x y = 1
 trans : ∀ x y z, c x y ≤ 0 → c y z ≤ 0 → c x z ≤ 0
theorem Ord3.self {α : Type} {c : α → α → Int} (h : Ord3 c) (x : α) : c x x = 0 := by have := h.neg x x; omega
theorem Ord3.zero {α : Type} {c : α → α → Int} (h : Ord3 c) {x y z : α} (hxy : c x y ≤ 0) (hyz : c y z ≤ 0) (h0 : c x z = 0) : c x y = 0 ∧ c y z = 0 := by
 have a := h.neg x z
 have h1 := h.trans y z x hyz (by omega)
 have h2 := h.trans z x y (by omega) hxy
 have b := h.neg x y
 have d := h.neg y z
 constructor <;> omega
theorem first_le {a b : Int} (h : firstC a b ≤ 0) : a ≤ 0 := by
 unfold firstC at h
 split at h <;> omega
theorem first_z {a b : Int} (h : a = 0) : firstC a b = b := by unfold firstC; rw [if_pos h]
theorem lexO {α β γ : Type} {c : α → α → Int} {d : β → β → Int} (f : γ → α) (g : γ → β) (hc : Ord3 c) (hd : Ord3 d) : Ord3 (fun x y : γ => firstC (c (f x) (f y)) (d (g x) (g y))) where
 neg x y := by
  show firstC (c (f y) (f x)) (d (g y) (g x)) = _
  rw [hc.neg, hd.neg (g x), firstC_neg]
 rng x y := by
  show firstC _ _ = _ ∨ firstC _ _ = _ ∨ firstC _ _ = _
  unfold firstC
  split
  · exact hd.rng _ _
  · exact hc.rng _ _
 trans x y z hxy hyz := by
  have h1 := first_le hxy
  have h2 := first_le hyz
  have h3 := hc.trans _ _ _ h1 h2
  show firstC (c (f x) (f z)) (d (g x) (g z)) ≤ 0
  by_cases h0 : c (f x) (f z) = 0
  · obtain ⟨e1, e2⟩ := hc.zero h1 h2 h0
    rw [first_z e1] at hxy
    rw [first_z e2] at hyz
    rw [first_z h0]
    exact hd.trans _ _ _ hxy hyz
  · unfold firstC
    rw [if_neg h0]
    exact h3
theorem numO : Ord3 numC where
 neg := numC_neg
 rng x y := by unfold numC; split; exact .inl rfl; split; exact .inr (.inr rfl); exact .inr (.inl rfl)
 trans x y z h k := by
  unfold numC at *
  split at h <;> split at k <;> split <;> (try split) <;> (try split at h) <;> (try split at k) <;> omega
theorem txt_le {a b : ByteArray} : txtC a b ≤ 0 ↔ klt b a = false := by
 unfold txtC
 cases h : klt a b with
 | true => rw [klt_asymm h]; simp
 | false => cases h' : klt b a <;> simp
theorem txtO : Ord3 txtC where
 neg := txtC_neg
 rng x y := by unfold txtC; split; exact .inl rfl; split; exact .inr (.inr rfl); exact .inr (.inl rfl)
 trans x y z h k := by
  rw [txt_le] at *
  cases hz : klt z x with
  | false => rfl
  | true =>
   cases hy : klt y z with
   | true => rw [klt_trans hy hz] at h; cases h
   | false =>
    have := klt_tri hy k
    subst this
    rw [hz] at h
    cases h
theorem txt_zero {a b : ByteArray} (h : txtC a b = 0) : a = b := by
 have h1 := txt_le.1 (Int.le_of_eq h)
 have h2 := txtO.neg a b
 have h3 := txt_le.1 (show txtC b a ≤ 0 by omega)
 exact klt_tri h3 h1
theorem num_zero {a b : Int} (h : numC a b = 0) : a = b := by
 unfold numC at h
 split at h
 · omega
 · split at h <;> omega
theorem brO : Ord3 (fun s t : Sv => brC s.r s.l t.r t.l) := lexO (γ := Sv) (·.r) (·.l) numO txtO
theorem nmO : Ord3 (fun s t : Sv => nmC s.r s.l s.n t.r t.l t.n) := lexO (γ := Sv) (c := fun s t : Sv => brC s.r s.l t.r t.l) id (·.n) brO numO
theorem gnO : Ord3 (fun s t : Sv => firstC (numC s.g t.g) (nmC s.r s.l s.n t.r t.l t.n)) := lexO (γ := Sv) (d := fun s t : Sv => nmC s.r s.l s.n t.r t.l t.n) (·.g) id numO nmO
theorem svO : Ord3 svC := lexO (γ := Sv) (c := fun s t : Sv => firstC (numC s.g t.g) (nmC s.r s.l s.n t.r t.l t.n)) id (·.i) gnO numO
theorem first_zero {a b : Int} (h : firstC a b = 0) : a = 0 ∧ b = 0 := by
 unfold firstC at h
 split at h
 · exact ⟨by assumption, h⟩
 · exact absurd h (by assumption)
theorem sv_zero {s t : Sv} (h : svC s t = 0) : s = t := by
 unfold svC nmC brC at h
 obtain ⟨h1, h2⟩ := first_zero h
 obtain ⟨h3, h4⟩ := first_zero h1
 obtain ⟨h5, h6⟩ := first_zero h4
 obtain ⟨h7, h8⟩ := first_zero h5
 have e1 := num_zero h3
 have e2 := num_zero h7
 have e3 := txt_zero h8
 have e4 := num_zero h6
 have e5 := num_zero h2
 cases s; cases t
 simp only at *
 subst e1 e2 e3 e4 e5
 rfl
def evC (x y : Ev) : Int := svC x.1 y.1
end Kn
end Go.Proofs.YtjlliohjeiclaaaGreatDoor
