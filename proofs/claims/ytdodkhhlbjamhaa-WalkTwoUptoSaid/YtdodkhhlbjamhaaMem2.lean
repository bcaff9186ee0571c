
/- Words on memory, further ones. -/
import Derived.Test.YtdodkhhlbjamhaaMem
import Derived.RegionTactic
import Derived.OwnWalk
namespace Go.Proofs.Ytdodkhhlbjamhaa
open Go.RowKit
theorem own_form {w : World} {base size n : Nat} {e : TypeId} {v : Value} {xs : List Value} (h : w.ownsRow base e size v n xs) (hn : 0 < n) : ∃ g cap, v = .slice (some ⟨g, 0, none⟩) n cap ∧ base ≤ g ∧ g < w.heap.size ∧ n ≤ cap ∧ cap ≤ maxLen := by
  rcases h.2 with ⟨_, h0⟩ | ⟨g, cap', cur, rfl, h1, h2, h3, h4, _⟩
  · omega
  · exact ⟨g, cap', rfl, h1, (h.lt g rfl).2, h3, h4⟩
theorem bvs_get (l : List UInt8) (i : Nat) (h : i < l.length) : (bvs l)[i]? = some (.int .u8 (l[i].toNat : Int)) := by simp [bvs, h]
theorem bvs_set (l : List UInt8) (i : Nat) (c : UInt8) : (bvs l).set i (.int .u8 (c.toNat : Int)) = bvs (l.set i c) := by simp [bvs, List.map_set]
/-- A cell of an owned row of bytes. -/
theorem own_byte {w : World} {base n g cap : Nat} {e : TypeId} {l : List UInt8} (h : w.ownsRow base e 1 (.slice (some ⟨g, 0, none⟩) n cap) n (bvs l)) (i : Nat) (hi : i < l.length) :
    w.cell? ⟨g, i, none⟩ = some (.int .u8 (l[i].toNat : Int)) ∧ w.frozen? ⟨g, i, none⟩ = false := by
  obtain ⟨g', hg, _, hc, hf, _⟩ := own_cell h i _ (bvs_get l i hi)
  cases hg
  exact ⟨hc, hf i⟩
/-- A store of a byte into an owned row. -/
theorem own_put {w : World} {base n g cap : Nat} {e : TypeId} {l : List UInt8} (h : w.ownsRow base e 1 (.slice (some ⟨g, 0, none⟩) n cap) n (bvs l)) (i : Nat) (c : UInt8) (u : Int) (hu : u = (c.toNat : Int)) :
    (w.setCell ⟨g, i, none⟩ (.int .u8 u)).ownsRow base e 1 (.slice (some ⟨g, 0, none⟩) n cap) n (bvs (l.set i c)) := by
  subst hu
  rw [← bvs_set]; exact own_set h i _
theorem BytesAt.fresh (w : World) (t : TypeId) (fr : Nat × Nat) (l : List UInt8) (vs : List Value) (h : vs = l.map fun c => Value.int .u8 (c.toNat : Int)) :
    BytesAt (w.alloc (.cells vs.toArray t fr)) (some ⟨w.heap.size, 0, none⟩) l := by
  intro i hi
  refine ⟨w.heap.size, 0, rfl, ?_⟩
  rw [Nat.zero_add, cell_new, h]
  simp [hi]
/-- The source of an append: one byte that was just laid. -/
theorem src_one {P : Program} {tx e' : TypeId} (hk : P.underlying tx = some (.slice e')) (w : World) (t : TypeId) (c : UInt8) (u : Int) (hu : u = (c.toNat : Int)) :
    Src P 1 tx (.slice (some ⟨w.heap.size, 0, none⟩) 1 1) 1 (bvs [c]) (w.alloc (.cells #[.int .u8 u] t)) := by
  subst hu
  exact (BytesAt.fresh w t (0, 0) [c] [_] rfl).src hk 1

/-! ### What a slice type's elements are, in one word; append and make by it -/
def ElemT (P : Program) (t e : TypeId) (z : Value) (size bytes : Nat) : Prop :=
  P.underlying t = some (.slice e) ∧ ∃ i, P.info? e = some i ∧ i.zero = some z ∧ i.size = size ∧ i.bytes = bytes ∧ z.cells.size = size
theorem ElemT.mk {P : Program} {t e : TypeId} {z : Value} {size bytes : Nat} (ht : P.underlying t = some (.slice e)) (h : (P.info? e).map (fun i => (i.zero, i.size, i.bytes)) = some (some z, size, bytes)) (hz : z.cells.size = size) : ElemT P t e z size bytes := by
  obtain ⟨i, h1, h2, h3, h4⟩ := info_parts h
  exact ⟨ht, i, h1, h2, h3, h4, hz⟩
theorem below_of_grown {w w' : World} {base size n : Nat} {e : TypeId} {v : Value} {xs : List Value} (hown : w.ownsRow base e size v n xs) (hb : base ≤ w.heap.size) (hg : w.grownBy w' v.ownBlock) : Below base w w' :=
  (Below.refl _ _).grown hg hb fun k hk => (hown.lt k hk).1
theorem wpList_app {P : Program} {w : World} {ops : Array Oper} {rest : List Oper} {o : Oper} {a : Act} {Q : Exit → Act → World → Prop} (hgd : o.guard = none) (s x : Operand) (t tx : TypeId)
    (ho : o.op = .call { callee := .builtin .append, args := #[s, x], argTypes := #[t, tx] })
    (base : Nat) (e : TypeId) (z : Value) (size bytes : Nat) (ht : ElemT P t e z size bytes)
    (v : Value) (n : Nat) (xs : List Value) (hv : a.eval s = v) (hown : w.ownsRow base e size v n xs)
    (xv : Value) (m : Nat) (news : List Value) (hx : a.eval x = xv) (hs : Src P size tx xv m news w)
    (h63 : n + m ≤ 4611686018427387904) (hbytes : (n + m) * bytes ≤ 140737488355328) (hbase : base ≤ w.heap.size)
    (h : ∀ v' w', w'.ownsRow base e size v' (n + m) (xs ++ news) → w.grownBy w' v.ownBlock → Below base w w' → (v'.ownBlock = v.ownBlock ∨ v'.ownBlock = some w.heap.size) → wpList P ops Q rest (a.put o.dst v') w') : wpList P ops Q (o :: rest) a w := by
  obtain ⟨h1, i, h2, h3, h4, h5, h6⟩ := ht
  exact wpList_append_src w hgd s x t tx ho base e i z size bytes h1 h2 h3 h4 h5 h6 v n xs hv hown xv m news hx hs (by unfold maxLen; omega) hbytes hbase
    fun v' w' g1 g2 g3 => h v' w' g1 g2 (below_of_grown hown hbase g2) g3
/-- Bytes onto owned bytes. -/
theorem wpList_appb {P : Program} {w : World} {ops : Array Oper} {rest : List Oper} {o : Oper} {a : Act} {Q : Exit → Act → World → Prop} (hgd : o.guard = none) (s x : Operand) (t tx : TypeId)
    (ho : o.op = .call { callee := .builtin .append, args := #[s, x], argTypes := #[t, tx] })
    (base : Nat) (e : TypeId) (ht : ElemT P t e (.int .u8 0) 1 1)
    (v : Value) (l : List UInt8) (hv : a.eval s = v) (hown : w.ownsRow base e 1 v l.length (bvs l))
    (xv : Value) (m : List UInt8) (hx : a.eval x = xv) (hs : Src P 1 tx xv m.length (bvs m) w)
    (hlen : l.length + m.length ≤ 70368744177664) (hbase : base ≤ w.heap.size)
    (h : ∀ v' w', w'.ownsRow base e 1 v' (l ++ m).length (bvs (l ++ m)) → w.grownBy w' v.ownBlock → Below base w w' → (v'.ownBlock = v.ownBlock ∨ v'.ownBlock = some w.heap.size) → wpList P ops Q rest (a.put o.dst v') w') : wpList P ops Q (o :: rest) a w :=
  wpList_app hgd s x t tx ho base e (.int .u8 0) 1 1 ht v l.length (bvs l) hv hown xv m.length (bvs m) hx hs (by omega) (by omega) hbase
    fun v' w' g1 g2 g3 g4 => h v' w' (by rw [List.length_append, bvs_append]; exact g1) g2 g3 g4
/-- The same, at a step of a region that draws. -/
theorem step_appb {P : Program} {w : World} {ops : Array Oper} {o : Oper} {a : Act} {K : Act → World → Prop} {Q : Exit → Act → World → Prop} {E : Prop} (hgd : o.guard = none) (s x : Operand) (t tx : TypeId)
    (ho : o.op = .call { callee := .builtin .append, args := #[s, x], argTypes := #[t, tx] })
    (base : Nat) (e : TypeId) (ht : ElemT P t e (.int .u8 0) 1 1)
    (v : Value) (l : List UInt8) (hv : a.eval s = v) (hown : w.ownsRow base e 1 v l.length (bvs l))
    (xv : Value) (m : List UInt8) (hx : a.eval x = xv) (hs : Src P 1 tx xv m.length (bvs m) w)
    (hlen : l.length + m.length ≤ 70368744177664) (hbase : base ≤ w.heap.size)
    (h : ∀ v' w', w'.ownsRow base e 1 v' (l ++ m).length (bvs (l ++ m)) → w.grownBy w' v.ownBlock → Below base w w' → (v'.ownBlock = v.ownBlock ∨ v'.ownBlock = some w.heap.size) → K (a.put o.dst v') w') :
    if Region.wanted o (yielded ops a.tmps) = true then Oper.wp P o a w K Q else E := by
  have hw : Region.wanted o (yielded ops a.tmps) = true := by simp [Region.wanted, hgd]
  rw [if_pos hw]
  obtain ⟨h1, i, h2, h3, h4, h5, h6⟩ := ht
  obtain ⟨v', w', hr, g2, g3, g4, _⟩ := run_append_own_src (P := P) w base t tx o.type e i (.int .u8 0) 1 1 h1 h2 h3 h4 h5 h6 v l.length (bvs l) hown xv m.length (bvs m) hs (by unfold maxLen; omega) (by omega) hbase
  unfold Oper.wp execOp
  simp only [ho, resolve, invoke, builtin, Sem.run_bind, Sem.run_pure, Result.andThen_ok, List.map_toArray, List.map_cons, List.map_nil, hv, hx, hr]
  exact h v' w' (by rw [List.length_append, bvs_append]; exact g2) g3 (below_of_grown hown hbase g3) g4
/-- make([]T, 0, n). -/
theorem wpList_mk0 {P : Program} {w : World} {ops : Array Oper} {rest : List Oper} {o : Oper} {a : Act} {Q : Exit → Act → World → Prop} (hg : o.guard = none) (l c : Operand) (t : TypeId) (hop : o.op = Op.makeSlice t l c)
    (e : TypeId) (z : Value) (size bytes : Nat) (ht : ElemT P t e z size bytes) (kl kc : IntKind) (C : Int) (n : Nat) (hl : a.eval l = .int kl 0) (hc : a.eval c = .int kc C) (hC : C = (n : Int)) (b2 : bytes * n ≤ 281474976710656) (b3 : n ≤ 4611686018427387904)
    (hK : ∀ w', w'.ownsRow w.heap.size e size (.slice (some ⟨w.heap.size, 0, none⟩) 0 n) 0 [] → Below w.heap.size w w' → wpList P ops Q rest (a.put o.dst (.slice (some ⟨w.heap.size, 0, none⟩) 0 n)) w') :
    wpList P ops Q (o :: rest) a w := by
  obtain ⟨h1, i, h2, h3, h4, h5, _⟩ := ht
  exact wpList_make_own w hg l c t hop w.heap.size e i z size h1 h2 h3 h4 kl kc C n hl hc hC (by rw [h5]; exact b2) (by unfold maxLen; omega) (Nat.le_refl _)
    fun w' g1 g2 => hK w' g1 ((Below.refl _ _).grown g2 (Nat.le_refl _) (fun k h => by cases h))
/-- make([]T, n). -/
theorem wpList_mkn {P : Program} {w : World} {ops : Array Oper} {rest : List Oper} {o : Oper} {a : Act} {Q : Exit → Act → World → Prop} (hg : o.guard = none) (l c : Operand) (t : TypeId) (hop : o.op = Op.makeSlice t l c)
    (e : TypeId) (z : Value) (size bytes : Nat) (ht : ElemT P t e z size bytes) (kl kc : IntKind) (L C : Int) (n : Nat) (hl : a.eval l = .int kl L) (hc : a.eval c = .int kc C) (hL : L = (n : Int)) (hC : C = (n : Int)) (b2 : bytes * n ≤ 281474976710656) (b3 : n ≤ 4611686018427387904)
    (hK : ∀ w', w'.ownsRow w.heap.size e size (.slice (some ⟨w.heap.size, 0, none⟩) n n) n (madeCells z.cells (n * size)).toList → Below w.heap.size w w' → wpList P ops Q rest (a.put o.dst (.slice (some ⟨w.heap.size, 0, none⟩) n n)) w') :
    wpList P ops Q (o :: rest) a w := by
  obtain ⟨h1, i, h2, h3, h4, h5, _⟩ := ht
  exact wpList_make_full w hg l c t hop w.heap.size e i z size h1 h2 h3 h4 kl kc L C n hl hc hL hC (by rw [h5]; exact b2) (by unfold maxLen; omega) (Nat.le_refl _)
    fun w' g1 g2 => hK w' g1 ((Below.refl _ _).grown g2 (Nat.le_refl _) (fun k h => by cases h))
end Go.Proofs.Ytdodkhhlbjamhaa
