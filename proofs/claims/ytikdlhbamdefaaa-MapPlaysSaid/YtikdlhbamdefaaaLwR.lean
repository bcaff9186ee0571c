
/- Plain: MapPlays' state. -/
import Derived.Test.YtikdlhbamdefaaaLwQ
namespace Go.Proofs.Ytikdlhbamdefaaa
open Go.RowKit Pm
def stV (l : List (Int × ByteArray × Int)) : List Value := l.flatMap fun x => [Value.int .i64 x.1, Value.string x.2.1, Value.int .i64 x.2.2]
theorem stV_length (a : List (Int × ByteArray × Int)) : (stV a).length = a.length * 3 := by
  induction a with
  | nil => rfl
  | cons x a ih => simp only [stV, List.flatMap_cons, List.length_append, List.length_cons, List.length_nil] at *; omega
theorem stV_get (a : List (Int × ByteArray × Int)) : ∀ i (h : i < a.length), (stV a)[i * 3]? = some (.int .i64 a[i].1) ∧ (stV a)[i * 3 + 1]? = some (.string a[i].2.1) ∧ (stV a)[i * 3 + 2]? = some (.int .i64 a[i].2.2) := by
  induction a with
  | nil => intro i h; simp at h
  | cons x a ih =>
    intro i h
    have e : stV (x :: a) = [Value.int .i64 x.1, Value.string x.2.1, Value.int .i64 x.2.2] ++ stV a := rfl
    rw [e]
    cases i with
    | zero => exact ⟨rfl, rfl, rfl⟩
    | succ i =>
      obtain ⟨h1, h2, h3⟩ := ih i (by simpa using h)
      rw [List.getElem?_append_right (by simp; omega), List.getElem?_append_right (by simp; omega), List.getElem?_append_right (by simp; omega)]
      refine ⟨?_, ?_, ?_⟩
      · rw [show (i + 1) * 3 - [Value.int .i64 x.1, Value.string x.2.1, Value.int .i64 x.2.2].length = i * 3 by simp; omega, h1]; rfl
      · rw [show (i + 1) * 3 + 1 - [Value.int .i64 x.1, Value.string x.2.1, Value.int .i64 x.2.2].length = i * 3 + 1 by simp; omega, h2]; rfl
      · rw [show (i + 1) * 3 + 2 - [Value.int .i64 x.1, Value.string x.2.1, Value.int .i64 x.2.2].length = i * 3 + 2 by simp; omega, h3]; rfl
/-- The facts between two steps. -/
def PlF (w : World) (t : Tr Int) (v8 : Value) (ts : List (Tr Int)) (vs : List Value) (W : World) : Prop :=
  AtI W t ∧ W.heap[w.heap.size]? = some (.cells #[.pointer (pa t)] 26 (0, 0)) ∧ EntT W v8 (items t) ∧ Below w.heap.size w W ∧ ∀ (j : Nat) (x : Tr Int), ts[j]? = some x → ∃ v, vs[j]? = some v ∧ AtI W x ∧ EntT W v (items x)
theorem PlF.below {w A B : World} {t : Tr Int} {v8 : Value} {ts : List (Tr Int)} {vs : List Value} (h : PlF w t v8 ts vs A) (hb : Below A.heap.size A B) : PlF w t v8 ts vs B :=
  ⟨h.1.below hb rfl, boxStays h.2.1 hb, h.2.2.1.below hb, h.2.2.2.1.trans (hb.mono h.2.2.2.1.size), fun j x hj => by
    obtain ⟨v, h1, h2, h3⟩ := h.2.2.2.2 j x hj
    exact ⟨v, h1, h2.below hb rfl, h3.below hb⟩⟩
theorem PlF.set {w A : World} {t t' : Tr Int} {v8 v8' : Value} {ts : List (Tr Int)} {vs : List Value} (h : PlF w t v8 ts vs A) (ht : AtI A t') (hv : EntT A v8' (items t')) : PlF w t' v8' ts vs (A.setCell ⟨w.heap.size, 0, none⟩ (.pointer (pa t'))) :=
  ⟨ht.setBox h.2.1 (by decide) 0 _, heap_setCell_same A w.heap.size 0 _ _ (.pointer (pa t')) h.2.1, hv.setBox h.2.1 (by decide) 0 _, h.2.2.2.1.setCell (p := ⟨w.heap.size, 0, none⟩) (by simp) _, fun j x hj => by
    obtain ⟨v, h1, h2, h3⟩ := h.2.2.2.2 j x hj
    exact ⟨v, h1, h2.setBox h.2.1 (by decide) 0 _, h3.setBox h.2.1 (by decide) 0 _⟩⟩
theorem PlF.grown {w A B : World} {t : Tr Int} {v8 : Value} {ts : List (Tr Int)} {vs : List Value} (h : PlF w t v8 ts vs A) {n : Nat} {e : TypeId} {v2 : Value} {xs : List Value} (h2 : A.ownsRow (w.heap.size + 1) e 1 v2 n xs) (hg : A.grownBy B v2.ownBlock) (he : e ≠ 76) (he2 : 47 ≠ e) (hb : Below w.heap.size w B) : PlF w t v8 ts vs B := by
  refine ⟨h.1.grown h2 hg he, ?_, h.2.2.1.grown h2 hg he2, hb, fun j x hj => ?_⟩
  · refine (hg.block w.heap.size (Array.getElem?_eq_some_iff.1 h.2.1).1 (fun e1 => ?_)).trans h.2.1
    have := (h2.lt w.heap.size e1.symm).1
    omega
  · obtain ⟨v, h1, g2, g3⟩ := h.2.2.2.2 j x hj
    exact ⟨v, h1, g2.grown h2 hg he, g3.grown h2 hg he2⟩
/-- The rows of what has been. -/
def PlR (w : World) (ts : List (Tr Int)) (vs : List Value) (v9 v10 : Value) (W : World) : Prop :=
  W.ownsRow (w.heap.size + 1) 26 1 v9 ts.length (ts.map fun x => .pointer (pa x)) ∧ W.ownsRow (w.heap.size + 1) 27 1 v10 vs.length vs ∧ vs.length = ts.length
theorem PlR.below {w A B : World} {ts : List (Tr Int)} {vs : List Value} {v9 v10 : Value} (h : PlR w ts vs v9 v10 A) (hb : Below A.heap.size A B) : PlR w ts vs v9 v10 B :=
  ⟨own_later h.1 hb (Nat.le_refl _), own_later h.2.1 hb (Nat.le_refl _), h.2.2⟩
theorem own_setLow {w : World} {b s n : Nat} {e : TypeId} {v : Value} {xs : List Value} (h : w.ownsRow b e s v n xs) {B : Nat} (hB : B < b) (i : Nat) (u : Value) : (w.setCell ⟨B, i, none⟩ u).ownsRow b e s v n xs := by
  refine ⟨h.1, ?_⟩
  rcases h.2 with h1 | ⟨g, cap, cur, hv, hb, hg, hr⟩
  · exact .inl h1
  · refine .inr ⟨g, cap, cur, hv, hb, ?_, hr⟩
    rw [Below.heap_setCell _ _ _ _ (by simp; omega)]
    exact hg
theorem PlR.set {w A : World} {ts : List (Tr Int)} {vs : List Value} {v9 v10 : Value} (h : PlR w ts vs v9 v10 A) (u : Value) : PlR w ts vs v9 v10 (A.setCell ⟨w.heap.size, 0, none⟩ u) :=
  ⟨own_setLow h.1 (by omega) 0 u, own_setLow h.2.1 (by omega) 0 u, h.2.2⟩
theorem box3 {W : World} {g : Nat} {t : TypeId} {fr : Nat × Nat} {x0 x1 x2 : Value} (h : W.heap[g]? = some (.cells #[x0, x1, x2] t fr)) : W.cell? ⟨g, 0, none⟩ = some x0 ∧ W.cell? ⟨g, 1, none⟩ = some x1 ∧ W.cell? ⟨g, 2, none⟩ = some x2 := by
  simp [World.cell?, h]
/-- A tree that may be. -/
def PlG (n : Nat) (t : Tr Int) : Prop := Bal t ∧ Srt (items t) ∧ sz t ≤ n
theorem lw_atT (l : List (ByteArray × Int)) (k : ByteArray) (v : Value) (W : World) (h : EntT W v l) (hl : l.length ≤ 1099511627776) : Calls Try.prog 16 #[v, .string k] W fun e w' => e = .returned (.tuple #[.int .i64 (posL l k : Int), .bool (isL l k)]) ∧ Below W.heap.size W w' := by
  obtain ⟨a, cap, rfl, _, _, hc⟩ := h.at
  exact lw_at l k a cap W hc hl
theorem EntT.cells {W : World} {a : Option Addr} {n cap : Nat} {l : List (ByteArray × Int)} (h : EntT W (.slice a n cap) l) : CellsAt W a (entV l) ∧ n = l.length ∧ n ≤ cap ∧ cap ≤ maxLen := by
  obtain ⟨a1, cap1, e1, h1, h2, h3⟩ := h.at
  cases e1
  exact ⟨h3, rfl, h1, h2⟩
theorem run_upto {P : Program} (w : World) (t e : TypeId) (ht : P.underlying t = some (.slice e)) (size : Nat) (hz : ∀ w, (Go.sizeOf e).run P w = .ok size w) (a : Option Addr) (len cap l : Nat) (hl : l ≤ cap) :
    (Instr.slice t (.slice a len cap) none (some (.int .i64 (l : Int))) none).run P w = .ok (.slice a l cap) w := by
  have ht' : P.underlying t = some (.slice (P.elem t)) := by simp [Program.elem, ht]
  have he : P.elem t = e := by simp [Program.elem, ht]
  rw [run_slice_h w t _ _ _ ht' .i64 _ (by omega) (by omega), he, hz]
  have e2 : (a.map fun x => x.add (0 * size)) = a := by cases a <;> simp [Addr.add]
  simp [Result.andThen, sliced]
  intro _
  cases a <;> simp [Addr.add]
theorem lw_tellsA (l : List (ByteArray × Int)) (x : Tr Int) (al : Option Addr) (n capl p : Nat) (lv : Int) (ky : ByteArray) (W : World) (hE : EntT W (.slice al n capl) l) (hA : AtI W x) (hb : Bal x) (hs : Srt (items x)) (hi : items x = l.take p) (hp : sz x = p) (hn : n ≤ 5000) (hpn : p ≤ n) :
    Calls Try.prog 13 #[.agg #[.pointer (pa x)], .slice al p capl, .int .i64 lv, .string ky] W fun e w' => e = .returned (.bool true) ∧ Below W.heap.size W w' := by
  obtain ⟨h1, h2, h3, h4⟩ := hE.cells
  have := lw_tells x al capl lv ky W hA hb hs (by rw [hi, entV_take]; exact h1.take _) (by omega) (by omega)
  rw [hp] at this
  exact this
theorem lw_tellsC (l : List (ByteArray × Int)) (x : Tr Int) (al : Option Addr) (n capl u : Nat) (lv : Int) (ky : ByteArray) (W : World) (hE : EntT W (.slice al n capl) l) (hA : AtI W x) (hb : Bal x) (hs : Srt (items x)) (hi : items x = l.drop u) (hn : n ≤ 5000) (hu : u ≤ n) :
    Calls Try.prog 13 #[.agg #[.pointer (pa x)], .slice (subN al capl u 2) (n - u) (capl - u), .int .i64 lv, .string ky] W fun e w' => e = .returned (.bool true) ∧ Below W.heap.size W w' := by
  obtain ⟨h1, h2, h3, h4⟩ := hE.cells
  have hp : sz x = n - u := by rw [← sz_items, hi, List.length_drop, h2]
  have := lw_tells x (subN al capl u 2) (capl - u) lv ky W hA hb hs (by rw [hi, entV_drop]; exact h1.from (size := 2) (len := n) (by rw [entV_length, h2]) capl u hu h3) (by omega) (by omega)
  rw [hp] at this
  exact this
theorem lw_tellsT (x : Tr Int) (v : Value) (lv : Int) (ky : ByteArray) (W : World) (hE : EntT W v (items x)) (hA : AtI W x) (hb : Bal x) (hs : Srt (items x)) (hn : sz x ≤ 5000) :
    Calls Try.prog 13 #[.agg #[.pointer (pa x)], v, .int .i64 lv, .string ky] W fun e w' => e = .returned (.bool true) ∧ Below W.heap.size W w' := by
  obtain ⟨a1, cap1, rfl, h1, h2, h3⟩ := hE.at
  rw [sz_items] at h1 ⊢
  exact lw_tells x a1 cap1 lv ky W hA hb hs h3 hn h1
/-- What Split and what follows it may lean on. -/
def SplF (t a c : Tr Int) (key : ByteArray) (p0 : Nat) (th : Bool) (vx : Int) : Prop :=
  sz a = p0 ∧ items a = (items t).take p0 ∧ items c = (items t).drop (if th then p0 + 1 else p0) ∧ joinOKI a key c ∧ Srt (items a) ∧ Srt (items c) ∧ Bal a ∧ Bal c ∧ (th = true → (items t)[p0]? = some (key, vx)) ∧ (th = false → vx = 0)
theorem splF {N : Nat} {t a x c : Tr Int} {key : ByteArray} {p0 : Nat} {th : Bool} (h : SplitR N key t a x c) (hb : Bal t) (hs : Srt (items t)) (hp : posL (items t) key = p0) (ht : isL (items t) key = th) : SplF t a c key p0 th (valOr x) ∧ isNI x = th ∧ p0 ≤ sz t ∧ (if th then p0 + 1 else p0) ≤ sz t := by
  obtain ⟨h1, h2, h3, h4, h5, h6, h7, h8, h9⟩ := split_list h hs
  have hq : sz a = p0 := by rw [← h1, hp]
  have hx : isNI x = th := by rw [← h2, ht]
  rw [hx] at h4 h8 h9
  rw [hq] at h3 h4 h8
  have hle : p0 ≤ sz t := by rw [← hp, ← sz_items]; exact posL_le _ _
  refine ⟨⟨hq, h3, h4, h5, h6, h7, (h.bal hb).1, (h.bal hb).2, h8, h9⟩, hx, hle, ?_⟩
  cases th with
  | false => exact hle
  | true =>
    have := (List.getElem?_eq_some_iff.1 (h8 rfl)).1
    rw [sz_items] at this
    exact this
theorem spl_ins {t a c : Tr Int} {key : ByteArray} {p0 : Nat} {th : Bool} {vx : Int} (h : SplF t a c key p0 th vx) (hp : posL (items t) key = p0) (ht : isL (items t) key = th) (v : Int) : items a ++ (key, v) :: items c = ins key v (items t) := by
  rw [ins_pos, hp, ht, h.2.1, h.2.2.1]
theorem PlF.push {w W : World} {t : Tr Int} {v : Value} {ts : List (Tr Int)} {vs : List Value} (h : PlF w t v ts vs W) (hl : vs.length = ts.length) : PlF w t v (ts ++ [t]) (vs ++ [v]) W := by
  refine ⟨h.1, h.2.1, h.2.2.1, h.2.2.2.1, fun j x hj => ?_⟩
  rcases Nat.lt_or_ge j ts.length with h1 | h1
  · rw [List.getElem?_append_left h1] at hj
    obtain ⟨u, g1, g2⟩ := h.2.2.2.2 j x hj
    exact ⟨u, by rw [List.getElem?_append_left (by omega)]; exact g1, g2⟩
  · rw [List.getElem?_append_right h1] at hj
    have hj0 : j - ts.length = 0 := by
      have := (List.getElem?_eq_some_iff.1 hj).1
      simp at this; omega
    rw [hj0] at hj
    simp at hj
    subst hj
    exact ⟨v, by rw [List.getElem?_append_right (by omega), show j - vs.length = 0 by omega]; rfl, h.1, h.2.2.1⟩
theorem infoMap : (Try.prog.info? 26).map (fun i => (i.zero, i.size, i.bytes)) = some (some (.agg #[.pointer none]), 1, 8) := by kernel_rfl
theorem mapT : ElemT Try.prog 54 26 (.agg #[.pointer none]) 1 8 := ElemT.mk Try.underlying54 infoMap rfl
theorem infoEnts : (Try.prog.info? 27).map (fun i => (i.zero, i.size, i.bytes)) = some (some (.slice none 0 0), 1, 24) := by kernel_rfl
theorem entsT : ElemT Try.prog 55 27 (.slice none 0 0) 1 24 := ElemT.mk Try.underlying55 infoEnts rfl
theorem isL_seek {t : Tr Int} (hs : Srt (items t)) (k : ByteArray) : isL (items t) k = isNI (seek k t) := by
  cases h : isL (items t) k with
  | true =>
    obtain ⟨v, hv⟩ := isL_true h
    obtain ⟨b, l, r, e⟩ := seek_val hs (List.mem_of_getElem? hv)
    rw [e]; rfl
  | false =>
    rw [seek_out (isL_false hs h)]; rfl
theorem put_made {t t' : Tr Int} {N : Nat} {k : ByteArray} {v : Int} (h : PutR N k v t t') (hb : Bal t) (hs : Srt (items t)) (ho : ∀ b ∈ blocks t, b < N) : (sz t' : Int) - (sharedNI t' t : Int) ≤ (ht t : Int) + 1 ∧ (isL (items t) k = true → (sz t' : Int) - (sharedNI t' t : Int) ≤ (ht t : Int)) := by
  have h1 := put_nw h hb ho
  have h2 := made_le (N := N) (a := t) (b := t') (put_blocks h)
  refine ⟨by omega, fun hi => ?_⟩
  have h3 := h1.2 (fun e => by rw [isL_seek hs, e] at hi; cases hi)
  omega
theorem take_made {t t' : Tr Int} {N : Nat} {k : ByteArray} (h : (seek k t = .nil ∧ t' = t) ∨ (seek k t ≠ .nil ∧ TakeR N k t t')) (ho : ∀ b ∈ blocks t, b < N) : (sz t' : Int) - (sharedNI t' t : Int) ≤ 3 * (ht t : Int) := by
  rcases h with ⟨_, rfl⟩ | ⟨_, h⟩
  · have h2 := made_le (N := N) (a := t') (b := t') (fun x hx => .inr hx)
    have h3 := nw_old ho
    omega
  · have h1 := take_nw h ho
    have h2 := made_le (N := N) (a := t) (b := t') (take_blocks h)
    omega
theorem join_made {a c x : Tr Int} {N : Nat} {k : ByteArray} {v : Int} (h : JoinR N k v a c x) (ha : Bal a) (hc : Bal c) (oa : ∀ b ∈ blocks a, b < N) (oc : ∀ b ∈ blocks c, b < N) : (sz x : Int) - (sharedNI x a : Int) - (sharedNI x c : Int) ≤ max ((ht a : Int) - ht c) (-((ht a : Int) - ht c)) + 4 := by
  have h1 := join_nw h ha hc oa oc
  have h2 := made2_le (N := N) (a := a) (b := c) (c := x) (join_blocks h)
  omega
end Go.Proofs.Ytikdlhbamdefaaa

