
/- Words on memory that all walks use: what a slice of bytes reads as; what 'Below' hands on. -/
import Derived.Test.YtdodkhhlbjamhaaRows
import Derived.WalkKit
import Derived.Outline
import Derived.Lib.Hide
import Derived.Deep.Draws
import Derived.Deep.AppendSrc
import Derived.Deep.Upon
import Derived.Laws.AppendOwn
import Derived.Maps.AppendAt
namespace Go.Proofs.Ytdodkhhlbjamhaa
open Go.RowKit

/-- The cells from a slice's address on hold these bytes (as many as there are). -/
def BytesAt (w : World) (a : Option Addr) (l : List UInt8) : Prop :=
  ∀ i (h : i < l.length), ∃ b off, a = some ⟨b, off, none⟩ ∧ w.cell? ⟨b, off + i, none⟩ = some (.int .u8 (l[i].toNat : Int))

theorem BytesAt.nil (w : World) (a : Option Addr) : BytesAt w a [] := fun i h => by simp at h

theorem cell_lt {w : World} {a : Addr} {v : Value} (h : w.cell? a = some v) : a.block < w.heap.size := block_lt_of_cell h

theorem BytesAt.below {w w' : World} {a : Option Addr} {l : List UInt8} {B : Nat} (h : BytesAt w a l) (hb : Below B w w') (hB : B = w.heap.size) : BytesAt w' a l := by
  intro i hi
  obtain ⟨b, off, rfl, hc⟩ := h i hi
  have hl := cell_lt hc
  exact ⟨b, off, rfl, by rw [hb.cell (p := ⟨b, off + i, none⟩) (by simpa [hB] using hl)]; exact hc⟩

/-- The cells from a slice's address on hold slices of bytes that read so. -/
def ListsAt (w : World) (a : Option Addr) (ll : List (List UInt8)) : Prop :=
  ∀ i (h : i < ll.length), ∃ b off a' cap, a = some ⟨b, off, none⟩ ∧ w.cell? ⟨b, off + i, none⟩ = some (.slice a' ll[i].length cap) ∧ BytesAt w a' ll[i] ∧ ll[i].length ≤ 9223372036854775807

theorem ListsAt.below {w w' : World} {a : Option Addr} {ll : List (List UInt8)} {B : Nat} (h : ListsAt w a ll) (hb : Below B w w') (hB : B = w.heap.size) : ListsAt w' a ll := by
  intro i hi
  obtain ⟨b, off, a', cap, rfl, hc, hl, hm⟩ := h i hi
  have hlt := cell_lt hc
  exact ⟨b, off, a', cap, rfl, by rw [hb.cell (p := ⟨b, off + i, none⟩) (by simpa [hB] using hlt)]; exact hc, hl.below hb hB, hm⟩

theorem bcell {W w1 : World} {B : Nat} (hb : Below B W w1) : (∀ b o, b < B → w1.cell? ⟨b, o, none⟩ = W.cell? ⟨b, o, none⟩) ∧ (∀ b o, b < B → w1.frozen? ⟨b, o, none⟩ = W.frozen? ⟨b, o, none⟩) :=
  ⟨fun b o h => hb.cell (p := ⟨b, o, none⟩) h, fun b o h => hb.frozen (p := ⟨b, o, none⟩) h⟩
theorem below_setRow {B : Nat} {a w : World} (h : Below B a w) {g : Nat} (hg : B ≤ g) (cs : Array Value) : Below B a (w.setRow g cs) :=
  h.trans ⟨rfl, rfl, rfl, by simp, fun k hk => setRow_other _ _ _ _ (by omega)⟩
theorem below_new (w : World) (o : Obj) : Below w.heap.size w (w.alloc o) := (Below.refl _ _).alloc (Nat.le_refl _) _
theorem cell_new (w : World) (cs : Array Value) (t : TypeId) (fr : Nat × Nat) (i : Nat) : (w.alloc (.cells cs t fr)).cell? ⟨w.heap.size, i, none⟩ = cs[i]? := cell_of_row _ _ _ _ _ _ (heap_alloc_new w _)
theorem below_drews {B : Nat} {a w : World} (h : Below B a w) (n : Nat) : Below B a (w.drewN n) := h.trans ⟨rfl, rfl, rfl, Nat.le_refl _, fun _ _ => rfl⟩
/-- A list of lists, out of a row of slices that was made last. -/
theorem ListsAt.new (w : World) (t : TypeId) (fr : Nat × Nat) (vs : List Value) (ll : List (List UInt8))
    (h : ∀ i (h : i < ll.length), ∃ a' cap, vs[i]? = some (.slice a' ll[i].length cap) ∧ BytesAt w a' ll[i] ∧ ll[i].length ≤ 9223372036854775807) :
    ListsAt (w.alloc (.cells vs.toArray t fr)) (some ⟨w.heap.size, 0, none⟩) ll := by
  intro i hi
  obtain ⟨a', cap, hv, hl, hm⟩ := h i hi
  refine ⟨w.heap.size, 0, a', cap, rfl, ?_, hl.below (below_new w _) rfl, hm⟩
  rw [Nat.zero_add, cell_new]
  simpa using hv

/-! ### A slice that the call owns: appended to by whatever -/
theorem heap_setCells {g : Nat} {e : TypeId} {fr : Nat × Nat} : ∀ (vs : List Value) (o : Nat) (w : World) (cur : Array Value), w.heap[g]? = some (.cells cur e fr) → o + vs.length ≤ cur.size →
    ∃ cur', (w.setCells g o vs).heap[g]? = some (.cells cur' e fr) ∧ cur'.size = cur.size ∧ cur'.toList.take (o + vs.length) = cur.toList.take o ++ vs
  | [], o, w, cur, h, _ => ⟨cur, h, rfl, by simp⟩
  | v :: r, o, w, cur, h, hl => by
    have hl' : o + 1 + r.length ≤ cur.size := by simp at hl; omega
    have h1 : (w.setCell ⟨g, o, none⟩ v).heap[g]? = some (.cells (cur.setIfInBounds o v) e fr) := by
      rw [setCell_eq_setRow w g o cur e fr v h]
      exact setRow_heap w g cur _ e fr h
    obtain ⟨cur', h2, h3, h4⟩ := heap_setCells r (o + 1) _ _ h1 (by simpa using hl')
    refine ⟨cur', h2, by simpa using h3, ?_⟩
    rw [show o + (v :: r).length = o + 1 + r.length by simp; omega, h4]
    rw [Array.toList_setIfInBounds, List.take_succ_eq_append_getElem (by simp; omega)]
    simp [List.take_set]
    exact List.set_eq_of_length_le (List.length_take_le _ _)
theorem setCells_grown {w : World} {g : Nat} (o : Nat) (vs : List Value) : w.grownBy (w.setCells g o vs) (some g) :=
  ⟨World.os_setCells w g o vs, by
    induction vs generalizing o w with
    | nil => rfl
    | cons v r ih => exact (ih (w := w.setCell ⟨g, o, none⟩ v) (o + 1)).trans rfl, World.output_setCells w g o vs, by
    induction vs generalizing o w with
    | nil => exact Nat.le_refl _
    | cons v r ih => exact Nat.le_trans (by simp [World.setCell]) (ih (w := w.setCell ⟨g, o, none⟩ v) (o + 1)),
    fun k hk hne => World.heap_setCells_other w g o vs hk (fun e => hne (by rw [e]))⟩

section
variable {P : Program} (w : World)
theorem run_append_own_src (base : Nat) (t tx ty e : TypeId) (i : TypeInfo) (z : Value) (size bytes : Nat) (ht : P.underlying t = some (.slice e)) (hi : P.info? e = some i) (hz : i.zero = some z)
    (hsize : i.size = size) (hby : i.bytes = bytes) (hzs : z.cells.size = size)
    (v : Value) (n : Nat) (xs : List Value) (hown : w.ownsRow base e size v n xs)
    (x : Value) (m : Nat) (news : List Value) (hs : Src P size tx x m news w)
    (h63 : n + m ≤ maxLen) (hbytes : (n + m) * bytes ≤ 140737488355328) (hbase : base ≤ w.heap.size) :
    ∃ v' w', (Builtin.append_ #[t, tx] ty #[v, x]).run P w = .ok v' w' ∧ w'.ownsRow base e size v' (n + m) (xs ++ news) ∧ w.grownBy w' v.ownBlock ∧
      (v'.ownBlock = v.ownBlock ∨ v'.ownBlock = some w.heap.size) ∧ (w.heap.size < w'.heap.size ∨ v'.ownBlock = v.ownBlock) := by
  subst hsize
  subst hby
  have hsmall : n + m ≤ 9223372036854775807 := by simp only [maxLen] at h63; omega
  have hlen : (xs ++ news).length = (n + m) * i.size := by rw [List.length_append, hown.1, hs.newsLen, Nat.add_mul]
  have grown : ∀ (old : Nat), old < n + m → ∀ (row : Option Nat),
      (w.drew.alloc (.cells ((xs ++ news).toArray ++ Builtin.zeroCells z.cells (grownCap w (n + m) old e - (n + m))) e)).ownsRow base e i.size
        (.slice (some ⟨w.heap.size, 0, none⟩) (n + m) (grownCap w (n + m) old e)) (n + m) (xs ++ news) ∧
      w.grownBy (w.drew.alloc (.cells ((xs ++ news).toArray ++ Builtin.zeroCells z.cells (grownCap w (n + m) old e - (n + m))) e)) row := by
    intro old ho row
    have hge := grownCap_ge w (n + m) old e
    have hcm : grownCap w (n + m) old e ≤ maxLen := grownCap_le_maxLen w (n + m) old e h63
    refine ⟨⟨hlen, .inr ⟨w.heap.size, _, _, rfl, hbase, heap_alloc_new w.drew _, hge, hcm, ?_, ?_⟩⟩, ⟨rfl, rfl, rfl, by simp, fun k hk _ => heap_alloc_old w.drew _ hk⟩⟩
    · simp only [Array.size_append, List.size_toArray, size_zeroCells, hzs, hlen, ← Nat.add_mul]
      congr 1
      omega
    · simp only [Array.toList_append]
      rw [← hlen]
      exact List.take_left
  rcases hown.2 with ⟨rfl, rfl⟩ | ⟨g, cap, cur, rfl, hbg, hg, hnc, hcm, hcs, htake⟩
  · have hx : xs = [] := List.eq_nil_of_length_eq_zero (by simpa using hown.1)
    subst hx
    by_cases hm : m = 0
    · subst hm
      have hn : news = [] := List.eq_nil_of_length_eq_zero (by simpa using hs.newsLen)
      subst hn
      refine ⟨.slice none 0 0, w, ?_, World.ownsRow_nil w base e i.size, ⟨rfl, rfl, rfl, Nat.le_refl _, fun _ _ _ => rfl⟩, .inl rfl, .inr rfl⟩
      rcases hs.kind with ⟨e', hk⟩ | hk <;> simp [Builtin.append_, run_underlying ht, run_underlying hk, sizeOf, typeInfo, hi, hs.len, hs.cells]
    · have hr := run_append_grow_src (P := P) w t tx ty e i z ht hi hz none 0 0 [] (run_firstCells_none w.drew i.size 0 0 0) x m news hs (by omega) (by omega)
        (growslice_fits (by omega) (by simpa using hbytes))
      have hgr := grown 0 (by omega) (Value.ownBlock (.slice none 0 0))
      exact ⟨_, _, hr, hgr.1, hgr.2, .inr rfl, .inl (by simp)⟩
  · by_cases hroom : n + m ≤ cap
    · have hfit : n * i.size + news.length ≤ cur.size := by rw [hs.newsLen, hcs, ← Nat.add_mul]; exact Nat.mul_le_mul_right _ hroom
      have hr := run_append_room_src (P := P) w t tx ty e i ht hi g 0 n cap x m news hs hroom
        (fun j hj => by rw [cell_of_row w g _ cur e _ hg]; simp; omega) (fun j hj => frozen_of_row w g _ cur e hg)
      obtain ⟨cur', h1, h2, h3⟩ := heap_setCells news (n * i.size) w cur hg hfit
      refine ⟨_, _, hr, ⟨hlen, .inr ⟨g, cap, cur', rfl, hbg, by simpa using h1, hroom, hcm, h2.trans hcs, ?_⟩⟩, setCells_grown _ _, .inl rfl, .inr rfl⟩
      rw [← htake, ← h3, Nat.add_mul, hs.newsLen]
    · have hr := run_append_grow_src (P := P) w t tx ty e i z ht hi hz (some ⟨g, 0, none⟩) n cap xs
        (run_firstCells_some w.drew i.size n ⟨g, 0, none⟩ n cap xs hown.1 (by simpa using hown.cells (g := g) rfl)) x m news hs (by omega) (by omega) (growslice_fits (by omega) hbytes)
      have hgr := grown cap (by omega) (Value.ownBlock (.slice (some ⟨g, 0, none⟩) n cap))
      exact ⟨_, _, hr, hgr.1, hgr.2, .inr rfl, .inl (by simp)⟩

/-- The append, at its operation. -/
theorem wpList_append_src {ops : Array Oper} {rest : List Oper} {o : Oper} {a : Act} {Q : Exit → Act → World → Prop} (hgd : o.guard = none) (s x : Operand) (t tx : TypeId)
    (ho : o.op = .call { callee := .builtin .append, args := #[s, x], argTypes := #[t, tx] })
    (base : Nat) (e : TypeId) (i : TypeInfo) (z : Value) (size bytes : Nat) (ht : P.underlying t = some (.slice e)) (hi : P.info? e = some i) (hz : i.zero = some z)
    (hsize : i.size = size) (hby : i.bytes = bytes) (hzs : z.cells.size = size)
    (v : Value) (n : Nat) (xs : List Value) (hv : a.eval s = v) (hown : w.ownsRow base e size v n xs)
    (xv : Value) (m : Nat) (news : List Value) (hx : a.eval x = xv) (hs : Src P size tx xv m news w)
    (h63 : n + m ≤ maxLen) (hbytes : (n + m) * bytes ≤ 140737488355328) (hbase : base ≤ w.heap.size)
    (h : ∀ v' w', w'.ownsRow base e size v' (n + m) (xs ++ news) → w.grownBy w' v.ownBlock → (v'.ownBlock = v.ownBlock ∨ v'.ownBlock = some w.heap.size) → wpList P ops Q rest (a.put o.dst v') w') : wpList P ops Q (o :: rest) a w :=
  wpList_plain hgd fun K hK => by
    obtain ⟨v', w', hr, h2, h3, h4, _⟩ := run_append_own_src (P := P) w base t tx o.type e i z size bytes ht hi hz hsize hby hzs v n xs hown xv m news hs h63 hbytes hbase
    unfold Oper.wp execOp
    simp only [ho, resolve, invoke, builtin, Sem.run_bind, Sem.run_pure, Result.andThen_ok, List.map_toArray, List.map_cons, List.map_nil, hv, hx, hr]
    exact hK _ _ (h v' w' h2 h3 h4)
end

/-! ### Bytes -/
def bvs (l : List UInt8) : List Value := l.map fun c => Value.int .u8 (c.toNat : Int)
theorem bvs_append (l m : List UInt8) : bvs (l ++ m) = bvs l ++ bvs m := by simp [bvs]
theorem bvs_length (l : List UInt8) : (bvs l).length = l.length := by simp [bvs]
theorem bvs_one (l : List UInt8) : ∀ u ∈ bvs l, u.oneCell' = true := fun u hu => by
  obtain ⟨_, _, rfl⟩ := List.mem_map.1 hu
  rfl
theorem Addr_add (b o j : Nat) : (⟨b, o, none⟩ : Addr).add j = ⟨b, o + j, none⟩ := by unfold Addr.add; split <;> simp_all

theorem BytesAt.src {P : Program} {w : World} {a : Option Addr} {l : List UInt8} (h : BytesAt w a l) {tx e' : TypeId} (hk : P.underlying tx = some (.slice e')) (cap : Nat) : Src P 1 tx (.slice a l.length cap) l.length (bvs l) w := by
  cases a with
  | none =>
    have : l = [] := by
      cases l with
      | nil => rfl
      | cons c r => obtain ⟨b, off, hh, _⟩ := h 0 (by simp); cases hh
    subst this
    exact Src.ofNil w hk cap
  | some a =>
    refine Src.ofSlice w hk a _ cap (bvs l) (by simp [bvs]) (fun j u hu => ?_) (bvs_one l)
    have hj : j < l.length := by
      have := (List.getElem?_eq_some_iff.1 hu).1
      simpa [bvs] using this
    obtain ⟨b, off, hh, hc⟩ := h j hj
    cases hh
    rw [Addr_add, hc]
    rw [← hu]; simp [bvs, hj]

/-- Cells of a row that the call owns. -/
theorem own_cell {w : World} {base n : Nat} {e : TypeId} {a : Option Addr} {len cap : Nat} {xs : List Value} (h : w.ownsRow base e 1 (.slice a len cap) n xs) (i : Nat) (u : Value) (hi : xs[i]? = some u) :
    ∃ g, a = some ⟨g, 0, none⟩ ∧ base ≤ g ∧ w.cell? ⟨g, i, none⟩ = some u ∧ (∀ j, w.frozen? ⟨g, j, none⟩ = false) ∧ len = n := by
  have hlt := (List.getElem?_eq_some_iff.1 hi).1
  rcases h.2 with ⟨hv, hn⟩ | ⟨g, cap', cur, hv, hb, hg, hnc, _, hcs, ht⟩
  · have := h.1; omega
  · have hcap : len = n ∧ a = some ⟨g, 0, none⟩ := by
      simp only [Value.slice.injEq] at hv
      exact ⟨hv.2.1, hv.1⟩
    obtain ⟨rfl, rfl⟩ := hcap
    refine ⟨g, rfl, hb, ?_, fun j => frozen_of_row w g j cur e hg, rfl⟩
    rw [cell_of_row w g i cur e _ hg]
    rw [← ht, List.getElem?_take] at hi
    split at hi
    · simpa using hi
    · cases hi

theorem own_slice {w : World} {base size n : Nat} {e : TypeId} {v : Value} {xs : List Value} (h : w.ownsRow base e size v n xs) : ∃ a cap, v = .slice a n cap ∧ n ≤ cap ∧ cap ≤ maxLen := by
  rcases h.2 with ⟨rfl, rfl⟩ | ⟨g, cap', cur, hv, _, _, h1, h2, _⟩
  · exact ⟨none, 0, rfl, Nat.le_refl _, Nat.zero_le _⟩
  · exact ⟨_, cap', hv, h1, h2⟩

theorem own_bytes {w : World} {base n : Nat} {e : TypeId} {a : Option Addr} {len cap : Nat} {l : List UInt8} (h : w.ownsRow base e 1 (.slice a len cap) n (bvs l)) : BytesAt w a l := by
  intro i hi
  obtain ⟨g, rfl, _, hc, _⟩ := own_cell h i (.int .u8 (l[i].toNat : Int)) (by simp [bvs, hi])
  exact ⟨g, 0, rfl, by rw [Nat.zero_add]; exact hc⟩

/-- What is owned stays while only blocks from B on are written. -/
theorem own_below {w w' : World} {base size n B : Nat} {e : TypeId} {v : Value} {xs : List Value} (h : w.ownsRow base e size v n xs) (hb : Below B w w') (hB : ∀ k, v.ownBlock = some k → k < B) : w'.ownsRow base e size v n xs := by
  refine ⟨h.1, ?_⟩
  rcases h.2 with hn | ⟨g, cap', cur, rfl, h1, h2, r⟩
  · exact .inl hn
  · exact .inr ⟨g, cap', cur, rfl, h1, by rw [hb.block g (hB g rfl)]; exact h2, r⟩
theorem own_later {w w' : World} {base size n B : Nat} {e : TypeId} {v : Value} {xs : List Value} (h : w.ownsRow base e size v n xs) (hb : Below B w w') (hB : w.heap.size ≤ B) : w'.ownsRow base e size v n xs :=
  own_below h hb fun k hk => Nat.lt_of_lt_of_le (h.lt k hk).2 hB
theorem own_grown {w w' : World} {base size n : Nat} {row : Option Nat} {e : TypeId} {v : Value} {xs : List Value} (h : w.ownsRow base e size v n xs) (hg : w.grownBy w' row) (hr : ∀ k, v.ownBlock = some k → row ≠ some k) : w'.ownsRow base e size v n xs := by
  refine ⟨h.1, ?_⟩
  rcases h.2 with hn | ⟨g, cap', cur, rfl, h1, h2, r⟩
  · exact .inl hn
  · exact .inr ⟨g, cap', cur, rfl, h1, by rw [hg.block g ((h.lt g rfl).2) (fun e => hr g rfl e.symm)]; exact h2, r⟩
theorem own_mono {w : World} {base base' size n : Nat} {e : TypeId} {v : Value} {xs : List Value} (h : w.ownsRow base e size v n xs) (hb : base' ≤ base) : w.ownsRow base' e size v n xs := by
  refine ⟨h.1, ?_⟩
  rcases h.2 with hn | ⟨g, cap', cur, rfl, h1, r⟩
  · exact .inl hn
  · exact .inr ⟨g, cap', cur, rfl, Nat.le_trans hb h1, r⟩
/-- From a law that ends in 'grownBy' to 'Below'. -/
theorem below_grown {B : Nat} {a w w' : World} {base size n : Nat} {e : TypeId} {v : Value} {xs : List Value} (h : Below B a w) (hown : w.ownsRow base e size v n xs) (hg : w.grownBy w' v.ownBlock) (hB : B ≤ w.heap.size) (hb : B ≤ base) : Below B a w' :=
  h.grown hg hB fun k hk => Nat.le_trans hb (hown.lt k hk).1
/-- A store into an owned row of one-cell elements. -/
theorem own_set {w : World} {base n g cap : Nat} {e : TypeId} {xs : List Value} (h : w.ownsRow base e 1 (.slice (some ⟨g, 0, none⟩) n cap) n xs) (i : Nat) (u : Value) :
    (w.setCell ⟨g, i, none⟩ u).ownsRow base e 1 (.slice (some ⟨g, 0, none⟩) n cap) n (xs.set i u) := by
  refine ⟨by simpa using h.1, ?_⟩
  rcases h.2 with ⟨hv, _⟩ | ⟨g', cap', cur, hv, h1, h2, h3, h4, h5, h6⟩
  · cases hv
  · simp only [Value.slice.injEq, Option.some.injEq, Addr.mk.injEq] at hv
    obtain ⟨⟨rfl, _⟩, _, rfl⟩ := hv
    refine .inr ⟨g, cap, cur.setIfInBounds i u, rfl, h1, heap_setCell_same w g i cur e u h2, h3, h4, by simpa using h5, ?_⟩
    rw [Array.toList_setIfInBounds, List.take_set, h6]
/-- A row that was just made. -/
theorem own_new (w : World) (base : Nat) (e : TypeId) (vs : List Value) (hb : base ≤ w.heap.size) (hm : vs.length ≤ maxLen) : (w.alloc (.cells vs.toArray e)).ownsRow base e 1 (.slice (some ⟨w.heap.size, 0, none⟩) vs.length vs.length) vs.length vs :=
  ⟨by simp, .inr ⟨w.heap.size, vs.length, vs.toArray, rfl, hb, heap_alloc_new w _, Nat.le_refl _, hm, by simp, by simp⟩⟩
/-- 's[:k]' of an owned row. -/
theorem own_take {w : World} {base n g cap : Nat} {e : TypeId} {xs : List Value} (h : w.ownsRow base e 1 (.slice (some ⟨g, 0, none⟩) n cap) n xs) (k : Nat) (hk : k ≤ n) :
    w.ownsRow base e 1 (.slice (some ⟨g, 0, none⟩) k cap) k (xs.take k) := by
  refine ⟨by rw [List.length_take, h.1]; omega, ?_⟩
  rcases h.2 with ⟨hv, _⟩ | ⟨g', cap', cur, hv, h1, h2, h3, h4, h5, h6⟩
  · cases hv
  · simp only [Value.slice.injEq, Option.some.injEq, Addr.mk.injEq] at hv
    obtain ⟨⟨rfl, _⟩, _, rfl⟩ := hv
    refine .inr ⟨g, cap, cur, rfl, h1, h2, by omega, h4, h5, ?_⟩
    rw [← h6, List.take_take]; congr 1; omega
/-- 'string(b)'. -/
theorem conv_bytes {P : Program} {w : World} {a : Option Addr} {l : List UInt8} (h : BytesAt w a l) (src e dst : TypeId) (hs : P.underlying src = some (.slice e)) (he : P.underlying e = some (.int .u8)) (hd : P.underlying dst = some .string) (n cap : Nat) (hn : n = l.length) :
    (convert src dst (.slice a n cap)).run P w = .ok (.string ⟨l.toArray⟩) w := by
  subst hn
  rw [run_convert_bytes_string w src dst e a _ cap hs he hd]
  cases a with
  | none =>
    have : l = [] := by
      cases l with
      | nil => rfl
      | cons c r => obtain ⟨b, off, hh, _⟩ := h 0 (by simp); cases hh
    subst this
    simp [Conv.bytesToString]
    rfl
  | some a =>
    have hr := run_loadCells_list (P := P) w a (bvs l) (fun j u hu => by
      have hj : j < l.length := by
        have := (List.getElem?_eq_some_iff.1 hu).1
        simpa [bvs] using this
      obtain ⟨b, off, hh, hc⟩ := h j hj
      cases hh
      rw [Addr_add, hc]
      rw [← hu]; simp [bvs, hj])
    have he : (l.map fun c => (c.toNat : Int)).map (Value.int .u8) = bvs l := by simp [bvs]
    rw [run_bytesToString w a l.length cap (l.map fun c => (c.toNat : Int)) (by rw [he]; simpa [bvs_length] using hr)]
    congr 2
    have key : ∀ (l : List UInt8) (r : ByteArray), (l.map fun c => (c.toNat : Int)).foldl (fun r n => r.push (UInt8.ofNat n.toNat)) r = ⟨r.data ++ l.toArray⟩ := by
      intro l
      induction l with
      | nil => intro r; simp
      | cons c l ih =>
        intro r
        rw [List.map_cons, List.foldl_cons, ih]
        apply ByteArray.ext
        simp [ByteArray.push]
    rw [key]
    apply ByteArray.ext
    simp [ByteArray.empty, ByteArray.emptyWithCapacity]
    rfl

/-! ### 's[l:h]' -/
def subAddr (a : Option Addr) (cap l : Nat) : Option Addr := if cap = l then a else a.map (·.add l)
theorem run_sub {P : Program} (w : World) (t e : TypeId) (ht : P.underlying t = some (.slice e)) (hz : ∀ w, (Go.sizeOf e).run P w = .ok 1 w) (a : Option Addr) (len cap l m : Nat) (h : Int) (hh : h = (l : Int) + (m : Int)) (hc : l + m ≤ cap) :
    (Instr.slice t (.slice a len cap) (some (.int .i64 (l : Int))) (some (.int .i64 h)) none).run P w = .ok (.slice (subAddr a cap l) m (cap - l)) w := by
  have ht' : P.underlying t = some (.slice (P.elem t)) := by simp [Program.elem, ht]
  have he : P.elem t = e := by simp [Program.elem, ht]
  subst hh
  rw [run_slice_lh w t _ _ _ ht' .i64 .i64 _ _ (by omega) (by omega) (by omega), he, hz]
  have e1 : ((l : Int) + (m : Int)).toNat - (l : Int).toNat = m := by omega
  by_cases hne : cap = l
  · subst hne
    simp [Result.andThen, sliced, subAddr]
    omega
  · simp [Result.andThen, sliced, subAddr, hne]
    omega
theorem sliced_sub (a : Option Addr) (l m h cap : Nat) (hh : h = l + m) : sliced a l h cap 1 = .slice (subAddr a cap l) m (cap - l) := by
  subst hh
  unfold sliced subAddr
  by_cases hne : cap = l
  · subst hne; simp
  · simp [hne]
theorem BytesAt.sub {w : World} {a : Option Addr} {all : List UInt8} (h : BytesAt w a all) (cap l m : Nat) (hm : l + m ≤ all.length) (hc : all.length ≤ cap) : BytesAt w (subAddr a cap l) ((all.drop l).take m) := by
  intro i hi
  have him : i < m := by simp at hi; omega
  obtain ⟨b, off, rfl, hcell⟩ := h (l + i) (by omega)
  refine ⟨b, off + l, ?_, ?_⟩
  · unfold subAddr
    rw [if_neg (by omega)]
    simp [Addr_add]
  · rw [Nat.add_assoc, hcell]
    simp
end Go.Proofs.Ytdodkhhlbjamhaa
