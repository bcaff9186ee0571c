
/- Walks: MapMakes, what it needs; its first half. -/
import Derived.Test.YtikdlhbamdefaaaLwN
import Derived.Test.YtikdlhbamdefaaaLwL
import Derived.Test.YtikdlhbamdefaaaPmRI
namespace Go.Proofs.Ytikdlhbamdefaaa
open Go.RowKit Pm
def Mm1 (w : World) (b9 : Nat) (t : Tr Int) (W : World) : Prop :=
  AtI W t ∧ W.heap[b9]? = some (.cells #[.pointer (pa t)] 26 (0, 0)) ∧ Below w.heap.size w W ∧ w.heap.size ≤ b9
theorem Mm1.below {w A B : World} {b9 : Nat} {t : Tr Int} (h : Mm1 w b9 t A) (hb : Below A.heap.size A B) : Mm1 w b9 t B :=
  ⟨h.1.below hb rfl, boxStays h.2.1 hb, h.2.2.1.trans (hb.mono h.2.2.1.size), h.2.2.2⟩
def Mm2 (w : World) (b9 b14 : Nat) (t o : Tr Int) (W : World) : Prop :=
  Mm1 w b9 t W ∧ AtI W o ∧ W.heap[b14]? = some (.cells #[.pointer (pa o)] 26 (0, 0)) ∧ b9 < b14
theorem Mm2.below {w A B : World} {b9 b14 : Nat} {t o : Tr Int} (h : Mm2 w b9 b14 t o A) (hb : Below A.heap.size A B) : Mm2 w b9 b14 t o B :=
  ⟨h.1.below hb, h.2.1.below hb rfl, boxStays h.2.2.1 hb, h.2.2.2⟩
theorem Mm2.set {w A : World} {b9 b14 : Nat} {t o : Tr Int} (h : Mm2 w b9 b14 t o A) {o' : Tr Int} (ho : AtI A o') : Mm2 w b9 b14 t o' (A.setCell ⟨b14, 0, none⟩ (.pointer (pa o'))) :=
  ⟨⟨h.1.1.setBox h.2.2.1 (by decide) 0 _, (Below.heap_setCell _ _ _ _ (by have := h.2.2.2; simp; omega)).trans h.1.2.1, h.1.2.2.1.setCell (p := ⟨b14, 0, none⟩) (by have := h.2.2.2; have := h.1.2.2.2; simp; omega) _, h.1.2.2.2⟩,
    ho.setBox h.2.2.1 (by decide) 0 _, heap_setCell_same A b14 0 _ _ (.pointer (pa o')) h.2.2.1, h.2.2.2⟩
theorem ofL_next (kv : List (ByteArray × Int)) (i : Nat) (k : ByteArray) (v : Int) (l : List (ByteArray × Int)) (hx : kv[i]? = some (k, v)) (h : ofL [] (kv.take i) = some l) (hs : Srt l) :
    (isL l k = true → ofL [] kv = none) ∧ (isL l k = false → ofL [] (kv.take (i + 1)) = some (ins k v l)) := by
  obtain ⟨hi, he⟩ := List.getElem?_eq_some_iff.1 hx
  constructor
  · intro h1
    obtain ⟨v0, h2⟩ := isL_true h1
    rw [ofL_takeI kv [] i _ h, List.drop_eq_getElem_cons hi, he, ofL, if_pos ⟨_, List.mem_of_getElem? h2, rfl⟩]
  · intro h1
    rw [List.take_succ_eq_append_getElem hi, he]
    exact ofL_snocI _ _ _ _ h (by rintro ⟨y, hy, e⟩; exact isL_false hs h1 y hy e)
theorem ent_at {W : World} {a : Option Addr} {l : List (ByteArray × Int)} (hc : CellsAt W a (entV l)) (m : Nat) (x : ByteArray × Int) (h : l[m]? = some x) : ∃ b off, a = some ⟨b, off, none⟩ ∧ W.cell? ⟨b, off + m * 2, none⟩ = some (.string x.1) := by
  obtain ⟨hi, he⟩ := List.getElem?_eq_some_iff.1 h
  obtain ⟨e0, _⟩ := entV_get l m hi
  rw [he] at e0
  exact hc.get _ _ e0
theorem entCells_set {w : World} {a : Option Addr} {l : List (ByteArray × Int)} (h : CellsAt w a (entV l)) {B : Nat} {t : TypeId} {p : Option Addr} (hB : w.heap[B]? = some (.cells #[.pointer p] t (0, 0))) (v : Value) : CellsAt (w.setCell ⟨B, 0, none⟩ v) a (entV l) :=
  h.setBox hB (fun u hu e => by
    obtain ⟨q, _, hq⟩ := List.mem_flatMap.1 hu
    simp at hq
    rcases hq with rfl | rfl <;> cases e) v
/-- A list's last key is below a key; a key is below a list's first one. -/
def lastLt (l : List (ByteArray × Int)) (k : ByteArray) : Bool := match l[l.length - 1]? with | none => true | some x => klt x.1 k
def ltFirst (k : ByteArray) (l : List (ByteArray × Int)) : Bool := match l[0]? with | none => true | some x => klt k x.1
theorem join_ok_iff (t o : Tr Int) (k : ByteArray) : joinOKI t k o ↔ (lastLt (items t) k && ltFirst k (items o)) = true := by
  have h1 : (isNI (endR t) = true → klt (keyOr (endR t)) k = true) ↔ lastLt (items t) k = true := by
    unfold lastLt
    by_cases ht0 : t = .nil
    · subst ht0; simp [endR, isNI, items]
    · obtain ⟨b, l, k0, v, r, e, g⟩ := endR_items t ht0
      rw [sz_items, e, g]; simp [isNI, keyOr]
  have h2 : (isNI (endL o) = true → klt k (keyOr (endL o)) = true) ↔ ltFirst k (items o) = true := by
    unfold ltFirst
    by_cases ht0 : o = .nil
    · subst ht0; simp [endL, isNI, items]
    · obtain ⟨b, l, k0, v, r, e, g⟩ := endL_items o ht0
      rw [e, g]; simp [isNI, keyOr]
  unfold joinOKI
  rw [h1, h2, Bool.and_eq_true]
theorem last_cases {W : World} {a : Option Addr} {l : List (ByteArray × Int)} (hc : CellsAt W a (entV l)) (k : ByteArray) :
    (l.length = 0 ∧ lastLt l k = true) ∨ ∃ (m1 b off : Nat) (lk : ByteArray), l.length = m1 + 1 ∧ a = some ⟨b, off, none⟩ ∧ W.cell? ⟨b, off + m1 * 2, none⟩ = some (.string lk) ∧ klt lk k = lastLt l k := by
  rcases Nat.eq_zero_or_pos l.length with h | h
  · refine .inl ⟨h, ?_⟩
    have : l = [] := List.eq_nil_of_length_eq_zero h
    subst this; rfl
  · have hx : l[l.length - 1]? = some (l[l.length - 1]'(by omega)) := List.getElem?_eq_getElem _
    obtain ⟨b, off, ha, c⟩ := ent_at hc _ _ hx
    refine .inr ⟨l.length - 1, b, off, _, by omega, ha, c, ?_⟩
    unfold lastLt
    rw [hx]
theorem first_cases {W : World} {a : Option Addr} {l : List (ByteArray × Int)} (hc : CellsAt W a (entV l)) (k : ByteArray) :
    (l.length = 0 ∧ ltFirst k l = true) ∨ ∃ (b off : Nat) (fk : ByteArray), 0 < l.length ∧ a = some ⟨b, off, none⟩ ∧ W.cell? ⟨b, off, none⟩ = some (.string fk) ∧ klt k fk = ltFirst k l := by
  rcases Nat.eq_zero_or_pos l.length with h | h
  · refine .inl ⟨h, ?_⟩
    have : l = [] := List.eq_nil_of_length_eq_zero h
    subst this; rfl
  · have hx : l[0]? = some (l[0]'(by omega)) := List.getElem?_eq_getElem _
    obtain ⟨b, off, ha, c⟩ := ent_at hc _ _ hx
    refine .inr ⟨b, off, _, h, ha, by simpa using c, ?_⟩
    unfold ltFirst
    rw [hx]
theorem srt_last {l : List (ByteArray × Int)} {k : ByteArray} (hs : Srt l) (h : lastLt l k = true) : ∀ x ∈ l, klt x.1 k = true := by
  intro x hx
  obtain ⟨i, hi, rfl⟩ := List.getElem_of_mem hx
  have hg : l[l.length - 1]? = some (l[l.length - 1]'(by omega)) := List.getElem?_eq_getElem _
  unfold lastLt at h
  rw [hg] at h
  rcases Nat.lt_or_ge i (l.length - 1) with h1 | h1
  · exact klt_trans ((List.pairwise_iff_getElem.1 hs) i (l.length - 1) hi (by omega) h1) h
  · have : i = l.length - 1 := by omega
    subst this
    exact h
theorem srt_first {l : List (ByteArray × Int)} {k : ByteArray} (hs : Srt l) (h : ltFirst k l = true) : ∀ x ∈ l, klt k x.1 = true := by
  intro x hx
  cases l with
  | nil => cases hx
  | cons y l =>
    have h' : klt k y.1 = true := h
    rcases List.mem_cons.1 hx with rfl | hx
    · exact h'
    · exact klt_trans h' ((srt_cons.1 hs).1 x hx)
theorem srt_joined {a b : List (ByteArray × Int)} {k : ByteArray} (v : Int) (ha : Srt a) (hb : Srt b) (h1 : lastLt a k = true) (h2 : ltFirst k b = true) : Srt (a ++ (k, v) :: b) := by
  refine srt_append.2 ⟨ha, srt_cons.2 ⟨srt_first hb h2, hb⟩, fun x hx y hy => ?_⟩
  rcases List.mem_cons.1 hy with rfl | hy
  · exact srt_last ha h1 x hx
  · exact klt_trans (srt_last ha h1 x hx) (srt_first hb h2 y hy)
theorem made_at {w1 w2 : World} {o : Obj} (hw : w2 = w1.alloc o) : ∃ c, w1.heap.size = c ∧ w2.heap[c]? = some o := ⟨_, rfl, by rw [hw]; exact heap_alloc_new w1 o⟩
theorem gt_form (a b : ByteArray) : (!Op.bytesLess a.toList b.toList && !(a.toList == b.toList)) = klt b a := by
  show (!klt a b && !(a.toList == b.toList)) = klt b a
  rw [eq_iff]
  cases h1 : klt a b
  · cases h2 : klt b a
    · have := klt_tri h1 h2
      simp [this]
    · have := klt_ne h2
      simp [Ne.symm this]
  · rw [klt_asymm h1]; rfl
theorem ptrSame (w : World) (t : Tr Int) (h : AtI w t) : (binOp .eql 24 (.pointer (pa t)) (.pointer (pa t))).run Try.prog w = .ok (.bool true) w := by
  have := ptr_eqlI w t t h h
  rwa [show decide (pa t = pa t) = true from decide_eq_true rfl] at this
/-- What the two makings make. -/
def Made2 (w : World) (t o : Tr Int) (key : ByteArray) (x y : Tr Int) (ex fy : Int) : Prop :=
  ((lastLt (items t) key && ltFirst key (items o)) = true ∧ ex = 0 ∧ items x = items t ++ (key, 7) :: items o ∧ Bal x ∧ (((ht t ≤ ht o + 1 ∧ ht o ≤ ht t + 1) ∧ fy = 0 ∧ ∃ b, y = .node b t key 7 o) ∨ (¬ (ht t ≤ ht o + 1 ∧ ht o ≤ ht t + 1) ∧ fy = 2 ∧ y = .nil))) ∨
    ((lastLt (items t) key && ltFirst key (items o)) = false ∧ ex = 2 ∧ x = .nil ∧ fy = 2 ∧ y = .nil)
end Go.Proofs.Ytikdlhbamdefaaa

