/- Words, contracts and walks that the proof stands on (EvP Cells CellsB KyE KyL KyM). -/
import Derived.Laws.StructEq
import Derived.Test.YtnpiepimajippaaRI1
import Derived.Test.YtnpiepimajippaaRI3
namespace Go.Proofs.Ytnpiepimajippaa
namespace St
open Pm
abbrev Ev := Sv × ByteArray
def toV (e : El) : Ev := (e.1.sv, e.2)
def toE (e : Ev) : El := (e.1.st, e.2)
def okV (e : Ev) : Bool := e.1.ok && decide (e.2.size ≤ 256)
theorem okE_iff {e : El} : okE e = true ↔ e.1.ok = true ∧ e.2.size ≤ 256 := by
 unfold okE
 simp only [Bool.and_eq_true, decide_eq_true_eq]
theorem okV_iff {e : Ev} : okV e = true ↔ e.1.ok = true ∧ e.2.size ≤ 256 := by
 unfold okV
 simp only [Bool.and_eq_true, decide_eq_true_eq]
theorem okV_toE {e : Ev} (h : okV e = true) : okE (toE e) = true ∧ toV (toE e) = e := by
 obtain ⟨h1, h2⟩ := okV_iff.1 h
 obtain ⟨k1, k2⟩ := Sv.ok_st h1
 exact ⟨okE_iff.2 ⟨k1, h2⟩, by unfold toV toE; rw [k2]⟩
theorem map_toV {l : List Ev} (h : ∀ x ∈ l, okV x = true) : (l.map toE).map toV = l := by
 rw [List.map_map]
 conv => rhs; rw [← List.map_id l]
 exact List.map_congr_left fun x hx => (okV_toE (h x hx)).2
theorem okE_map {l : List Ev} (h : ∀ x ∈ l, okV x = true) : ∀ x ∈ l.map toE, okE x = true := fun x hx => by
 obtain ⟨y, hy, rfl⟩ := List.mem_map.1 hx
 exact (okV_toE (h y hy)).1
def mayV (l : List Ev) : Bool := l.all okV && decide ((l.map (·.1)).Nodup)
theorem mayV_iff {l : List Ev} : mayV l = true ↔ (∀ x ∈ l, okV x = true) ∧ (l.map (·.1)).Nodup := by
 unfold mayV
 simp only [Bool.and_eq_true, List.all_eq_true, decide_eq_true_eq]
theorem mayV_nil : mayV [] = true := by simp [mayV]
theorem mayV_snoc {l : List Ev} {x : Ev} : mayV (l ++ [x]) = true ↔ mayV l = true ∧ okV x = true ∧ ∀ y ∈ l, y.1 ≠ x.1 := by
 rw [mayV_iff, mayV_iff]
 simp only [List.mem_append, List.mem_singleton, List.map_append, List.map_cons, List.map_nil, List.nodup_append, List.mem_map]
 constructor
 · rintro ⟨h1, h2, _, h3⟩
   exact ⟨⟨fun y hy => h1 y (.inl hy), h2⟩, h1 x (.inr rfl), fun y hy => h3 _ ⟨y, hy, rfl⟩ _ rfl⟩
 · rintro ⟨⟨h1, h2⟩, h3, h4⟩
   refine ⟨fun y hy => ?_, h2, by simp, ?_⟩
   · rcases hy with hy | rfl
     · exact h1 y hy
     · exact h3
   · rintro _ ⟨y, hy, rfl⟩ _ rfl
     exact h4 y hy
theorem mayV_left {l m : List Ev} (h : mayV (l ++ m) = true) : mayV l = true := by
 rw [mayV_iff] at h ⊢
 rw [List.map_append, List.nodup_append] at h
 exact ⟨fun x hx => h.1 x (List.mem_append_left _ hx), h.2.1⟩
theorem mayE_iff {l : List El} : mayE l = true ↔ (∀ x ∈ l, okE x = true) ∧ (l.map (·.1)).Nodup := by
 constructor
 · exact mayE_mem
 · rintro ⟨h1, h2⟩
   induction l with
   | nil => rfl
   | cons x l ih =>
     rw [List.map_cons, List.nodup_cons] at h2
     simp only [mayE, Bool.and_eq_true, List.all_eq_true, decide_eq_true_eq]
     exact ⟨⟨h1 x List.mem_cons_self, fun y hy e => h2.1 (List.mem_map.2 ⟨y, hy, e⟩)⟩, ih (fun y hy => h1 y (List.mem_cons_of_mem _ hy)) h2.2⟩
theorem mayV_E {l : List Ev} (h : mayV l = true) : mayE (l.map toE) = true := by
 obtain ⟨h1, h2⟩ := mayV_iff.1 h
 refine mayE_iff.2 ⟨okE_map h1, ?_⟩
 rw [List.map_map]
 rw [List.nodup_iff_pairwise_ne, List.pairwise_map] at h2 ⊢
 refine List.Pairwise.imp_of_mem (fun {a b} ha hb hne e => hne ?_) h2
 exact st_inj (okV_iff.1 (h1 a ha)).1 (okV_iff.1 (h1 b hb)).1 e
def aheadV (x y : Ev) : Bool := decide (svC y.1 x.1 < 0) || (decide (y.1 = x.1) && klt y.2 x.2)
def insV (x : Ev) (l : List Ev) : List Ev := l.takeWhile (aheadV x) ++ x :: l.dropWhile (aheadV x)
def sortV (l : List Ev) : List Ev := l.foldl (fun out x => insV x out) []
theorem aheadV_E {x y : Ev} (hx : x.1.ok = true) (hy : y.1.ok = true) : aheadV x y = aheadE (toE x) (toE y) := by
 unfold aheadV aheadE toE
 rw [svC_lt hy hx]
 congr 2
 rw [decide_eq_decide]
 exact ⟨fun h => by rw [h], fun h => st_inj hy hx h⟩
theorem insV_E {x : Ev} {l : List Ev} (hx : x.1.ok = true) (hl : ∀ y ∈ l, y.1.ok = true) : (insV x l).map toE = insE (toE x) (l.map toE) := by
 unfold insV insE
 have e : ∀ y ∈ l, aheadV x y = (aheadE (toE x) ∘ toE) y := fun y hy => aheadV_E hx (hl y hy)
 have t1 : l.takeWhile (aheadV x) = l.takeWhile (aheadE (toE x) ∘ toE) := by
   clear hl
   induction l with
   | nil => rfl
   | cons y l ih =>
     rw [List.takeWhile_cons, List.takeWhile_cons, e y List.mem_cons_self, ih fun z hz => e z (List.mem_cons_of_mem _ hz)]
 have t2 : l.dropWhile (aheadV x) = l.dropWhile (aheadE (toE x) ∘ toE) := by
   clear hl t1
   induction l with
   | nil => rfl
   | cons y l ih =>
     rw [List.dropWhile_cons, List.dropWhile_cons, e y List.mem_cons_self, ih fun z hz => e z (List.mem_cons_of_mem _ hz)]
 rw [List.map_append, List.map_cons, t1, t2, List.takeWhile_map, List.dropWhile_map]
theorem insV_mem {x y : Ev} {l : List Ev} : y ∈ insV x l ↔ y = x ∨ y ∈ l := by
 unfold insV
 rw [List.mem_append, List.mem_cons]
 constructor
 · rintro (h | h | h)
   · exact .inr ((List.takeWhile_prefix _).subset h)
   · exact .inl h
   · exact .inr ((List.dropWhile_suffix _).subset h)
 · rintro (h | h)
   · exact .inr (.inl h)
   · rw [← List.takeWhile_append_dropWhile (p := aheadV x) (l := l)] at h
     rcases List.mem_append.1 h with h | h
     · exact .inl h
     · exact .inr (.inr h)
theorem insV_length (x : Ev) (l : List Ev) : (insV x l).length = l.length + 1 := by
 unfold insV
 have := congrArg List.length (List.takeWhile_append_dropWhile (p := aheadV x) (l := l))
 rw [List.length_append] at this
 rw [List.length_append, List.length_cons]
 omega
theorem sortV_snoc (l : List Ev) (x : Ev) : sortV (l ++ [x]) = insV x (sortV l) := by
 unfold sortV
 rw [List.foldl_append]
 rfl
theorem sortV_length (l : List Ev) : (sortV l).length = l.length := by
 have : ∀ (l o : List Ev), (l.foldl (fun out x => insV x out) o).length = o.length + l.length := by
   intro l
   induction l with
   | nil => intro o; simp
   | cons x l ih => intro o; rw [List.foldl_cons, ih, insV_length, List.length_cons]; omega
 have := this l []
 unfold sortV
 simpa using this
theorem sortV_mem {l : List Ev} {x : Ev} : x ∈ sortV l ↔ x ∈ l := by
 have : ∀ (l o : List Ev), x ∈ (l.foldl (fun out x => insV x out) o) ↔ x ∈ l ∨ x ∈ o := by
   intro l
   induction l with
   | nil => intro o; simp
   | cons y l ih =>
     intro o
     rw [List.foldl_cons, ih, insV_mem, List.mem_cons]
     constructor
     · rintro (h | h | h)
       · exact .inl (.inr h)
       · exact .inl (.inl h)
       · exact .inr h
     · rintro ((h | h) | h)
       · exact .inr (.inl h)
       · exact .inl h
       · exact .inr (.inr h)
 have := this l []
 unfold sortV
 simpa using this
theorem sortV_E {l : List Ev} (h : ∀ x ∈ l, x.1.ok = true) : (sortV l).map toE = sortE (l.map toE) := by
 have : ∀ (l o : List Ev), (∀ x ∈ l, x.1.ok = true) → (∀ x ∈ o, x.1.ok = true) → (l.foldl (fun out x => insV x out) o).map toE = (l.map toE).foldl (fun out x => insE x out) (o.map toE) := by
   intro l
   induction l with
   | nil => intro o _ _; rfl
   | cons x l ih =>
     intro o h1 h2
     rw [List.foldl_cons, List.map_cons, List.foldl_cons, ← insV_E (h1 x List.mem_cons_self) h2]
     refine ih _ (fun y hy => h1 y (List.mem_cons_of_mem _ hy)) fun y hy => ?_
     rcases insV_mem.1 hy with rfl | hy
     · exact h1 _ List.mem_cons_self
     · exact h2 y hy
 exact this l [] h (fun x hx => by cases hx)
theorem sortV_V {l : List Ev} (h : ∀ x ∈ l, okV x = true) : sortV l = (sortE (l.map toE)).map toV := by
 rw [← sortV_E fun x hx => (okV_iff.1 (h x hx)).1]
 exact (map_toV fun x hx => h x (sortV_mem.1 hx)).symm
def behindV (l : List Ev) (s : Sv) : Bool := match l.getLast? with
 | none => true
 | some x => decide (svC x.1 s < 0)
end St
end Go.Proofs.Ytnpiepimajippaa
namespace Go.Proofs.Ytnpiepimajippaa
open Go.RowKit
def CellsAt (w : World) (a : Option Addr) (vs : List Value) : Prop := ∀ i (h : i < vs.length), ∃ b off, a = some ⟨b, off, none⟩ ∧ w.cell? ⟨b, off + i, none⟩ = some vs[i]
theorem CellsAt.nil (w : World) (a : Option Addr) : CellsAt w a [] := fun i h => by simp at h
theorem CellsAt.below {w w' : World} {a : Option Addr} {vs : List Value} {B : Nat} (h : CellsAt w a vs) (hb : Below B w w') (hB : B = w.heap.size) : CellsAt w' a vs := by
 intro i hi
 obtain ⟨b, off, rfl, hc⟩ := h i hi
 have hl := cell_lt hc
 exact ⟨b, off, rfl, by rw [hb.cell (p := ⟨b, off + i, none⟩) (by simpa [hB] using hl)]; exact hc⟩
theorem CellsAt.new (w : World) (t : TypeId) (fr : Nat × Nat) (vs : List Value) : CellsAt (w.alloc (.cells vs.toArray t fr)) (some ⟨w.heap.size, 0, none⟩) vs := by
 intro i hi
 refine ⟨w.heap.size, 0, rfl, ?_⟩
 rw [Nat.zero_add, cell_new]
 simp
theorem CellsAt.get {w : World} {a : Option Addr} {vs : List Value} (h : CellsAt w a vs) (i : Nat) (v : Value) (hi : vs[i]? = some v) : ∃ b off, a = some ⟨b, off, none⟩ ∧ w.cell? ⟨b, off + i, none⟩ = some v := by
 obtain ⟨hlt, e⟩ := List.getElem?_eq_some_iff.1 hi
 obtain ⟨b, off, h1, h2⟩ := h i hlt
 exact ⟨b, off, h1, by rw [h2, e]⟩
theorem CellsAt.own {w : World} {base n : Nat} {e : TypeId} {a : Option Addr} {len cap : Nat} {vs : List Value} (h : w.ownsRow base e 1 (.slice a len cap) n vs) : CellsAt w a vs := by
 intro i hi
 obtain ⟨g, rfl, _, hc, _⟩ := own_cell h i vs[i] (by simp [hi])
 exact ⟨g, 0, rfl, by rw [Nat.zero_add]; exact hc⟩
end Go.Proofs.Ytnpiepimajippaa
namespace Go.Proofs.Ytnpiepimajippaa
open Go.RowKit
theorem CellsAt.take {w : World} {a : Option Addr} {vs : List Value} (h : CellsAt w a vs) (k : Nat) : CellsAt w a (vs.take k) := by
 intro i hi
 obtain ⟨b, off, e, c⟩ := h i (by simp at hi; omega)
 exact ⟨b, off, e, by rw [c]; simp⟩
theorem CellsAt.drop {w : World} {a : Option Addr} {vs : List Value} (h : CellsAt w a vs) (k : Nat) : CellsAt w (Option.map (fun x => x.add k) a) (vs.drop k) := by
 intro i hi
 obtain ⟨b, off, rfl, c⟩ := h (k + i) (by simp at hi; omega)
 exact ⟨b, off + k, by simp [Addr_add], by rw [show off + k + i = off + (k + i) by omega, c]; simp⟩
theorem CellsAt.src {P : Program} {w : World} {a : Option Addr} {vs : List Value} {size n : Nat} (h : CellsAt w a vs) (hlen : vs.length = n * size) (hone : ∀ u ∈ vs, u.oneCell' = true) {tx e' : TypeId} (hk : P.underlying tx = some (.slice e')) (cap : Nat) (hsz : size = 1 ∨ size = 2) : Src P size tx (.slice a n cap) n vs w := by
 cases a with
 | none =>
   have : vs = [] := by
     cases vs with
     | nil => rfl
     | cons c r => obtain ⟨b, off, hh, _⟩ := h 0 (by simp); cases hh
   subst this
   have hn : n = 0 := by rcases hsz with rfl | rfl <;> (simp only [List.length_nil] at hlen; omega)
   subst hn
   exact Src.ofNil w hk cap
 | some a =>
   refine Src.ofSlice w hk a _ cap vs hlen (fun j u hu => ?_) hone
   obtain ⟨hj, he⟩ := List.getElem?_eq_some_iff.1 hu
   obtain ⟨b, off, hh, hc⟩ := h j hj
   cases hh
   rw [Addr_add, hc, he]
def subN (a : Option Addr) (cap l size : Nat) : Option Addr := if cap = l then a else a.map (·.add (l * size))
theorem run_from {P : Program} (w : World) (t e : TypeId) (ht : P.underlying t = some (.slice e)) (size : Nat) (hz : ∀ w, (Go.sizeOf e).run P w = .ok size w) (a : Option Addr) (len cap l : Nat) (x : Int) (hx : x = (l : Int)) (hl : l ≤ len) :
   (Instr.slice t (.slice a len cap) (some (.int .i64 x)) none none).run P w = .ok (.slice (subN a cap l size) (len - l) (cap - l)) w := by
 have ht' : P.underlying t = some (.slice (P.elem t)) := by simp [Program.elem, ht]
 have he : P.elem t = e := by simp [Program.elem, ht]
 subst hx
 rw [run_slice_l w t _ _ _ ht' .i64 _ (by omega) (by omega), he, hz]
 simp [Result.andThen, sliced, subN]
theorem CellsAt.one {P : Program} (w : World) (t : TypeId) (v : Value) (hv : v.oneCell' = true) {tx e' : TypeId} (hk : P.underlying tx = some (.slice e')) : Src P 1 tx (.slice (some ⟨w.heap.size, 0, none⟩) 1 1) 1 [v] (w.alloc (.cells #[v] t)) :=
 (CellsAt.new w t (0, 0) [v]).src (n := 1) rfl (by simp [hv]) hk 1 (Or.inl rfl)
end Go.Proofs.Ytnpiepimajippaa
namespace Go.Proofs.Ytnpiepimajippaa
open Go.RowKit St
def elV (e : Ev) : List Value := [.int .i64 e.1.g, .int .i64 e.1.r, .string e.1.l, .int .i64 e.1.n, .int .i64 e.1.i, .string e.2]
def elsV (l : List Ev) : List Value := l.flatMap elV
theorem elsV_nil : elsV [] = [] := rfl
theorem elsV_cons (e : Ev) (l : List Ev) : elsV (e :: l) = elV e ++ elsV l := rfl
theorem elsV_append (l m : List Ev) : elsV (l ++ m) = elsV l ++ elsV m := by unfold elsV; rw [List.flatMap_append]
theorem elsV_length (l : List Ev) : (elsV l).length = l.length * 6 := by
 induction l with
 | nil => rfl
 | cons e l ih => rw [elsV_cons, List.length_append, ih, List.length_cons]; simp [elV]; omega
theorem elsV_one (l : List Ev) : ∀ u ∈ elsV l, u.oneCell' = true := fun u hu => by
 unfold elsV at hu
 obtain ⟨e, _, hu⟩ := List.mem_flatMap.1 hu
 simp only [elV, List.mem_cons, List.not_mem_nil, or_false] at hu
 rcases hu with rfl | rfl | rfl | rfl | rfl | rfl <;> rfl
theorem elsV_take (l : List Ev) (k : Nat) : elsV (l.take k) = (elsV l).take (k * 6) := by
 induction l generalizing k with
 | nil => simp [elsV_nil]
 | cons e l ih =>
   cases k with
   | zero => simp [elsV_nil]
   | succ k =>
     rw [List.take_succ_cons, elsV_cons, elsV_cons, ih, List.take_append, show (elV e).length = 6 from rfl, show (k + 1) * 6 - 6 = k * 6 by omega, List.take_of_length_le (l := elV e) (by show 6 ≤ _; omega)]
theorem elsV_drop (l : List Ev) (k : Nat) : elsV (l.drop k) = (elsV l).drop (k * 6) := by
 induction l generalizing k with
 | nil => simp [elsV_nil]
 | cons e l ih =>
   cases k with
   | zero => simp
   | succ k =>
     rw [List.drop_succ_cons, elsV_cons, ih, List.drop_append, show (elV e).length = 6 from rfl, show (k + 1) * 6 - 6 = k * 6 by omega, List.drop_of_length_le (l := elV e) (by show 6 ≤ _; omega), List.nil_append]
theorem elsV_get (l : List Ev) (k j : Nat) (hk : k < l.length) (hj : j < 6) : (elsV l)[k * 6 + j]? = (elV l[k])[j]? := by
 have h1 : (elsV l).drop (k * 6) = elV l[k] ++ elsV (l.drop (k + 1)) := by rw [← elsV_drop, List.drop_eq_getElem_cons hk, elsV_cons]
 rw [← List.getElem?_drop, h1, List.getElem?_append_left (by show j < 6; exact hj)]
structure ElCell (w : World) (b o : Nat) (e : Ev) : Prop where
 c0 : w.cell? ⟨b, o, none⟩ = some (.int .i64 e.1.g)
 c1 : w.cell? ⟨b, o + 1, none⟩ = some (.int .i64 e.1.r)
 c2 : w.cell? ⟨b, o + 2, none⟩ = some (.string e.1.l)
 c3 : w.cell? ⟨b, o + 3, none⟩ = some (.int .i64 e.1.n)
 c4 : w.cell? ⟨b, o + 4, none⟩ = some (.int .i64 e.1.i)
 c5 : w.cell? ⟨b, o + 5, none⟩ = some (.string e.2)
theorem els_get {w : World} {a : Option Addr} {l : List Ev} (h : CellsAt w a (elsV l)) (k : Nat) (hk : k < l.length) : ∃ b off, a = some ⟨b, off, none⟩ ∧ ElCell w b (off + k * 6) l[k] := by
 have g : ∀ j v, j < 6 → (elV l[k])[j]? = some v → ∃ b off, a = some ⟨b, off, none⟩ ∧ w.cell? ⟨b, off + (k * 6 + j), none⟩ = some v := fun j v hj hv => h.get _ v (by rw [elsV_get l k j hk hj, hv])
 obtain ⟨b, off, rfl, q0⟩ := g 0 _ (by omega) rfl
 refine ⟨b, off, rfl, ?_⟩
 obtain ⟨_, _, e1, q1⟩ := g 1 _ (by omega) rfl
 obtain ⟨_, _, e2, q2⟩ := g 2 _ (by omega) rfl
 obtain ⟨_, _, e3, q3⟩ := g 3 _ (by omega) rfl
 obtain ⟨_, _, e4, q4⟩ := g 4 _ (by omega) rfl
 obtain ⟨_, _, e5, q5⟩ := g 5 _ (by omega) rfl
 cases e1; cases e2; cases e3; cases e4; cases e5
 exact ⟨by simpa using q0, by simpa [Nat.add_assoc] using q1, by simpa [Nat.add_assoc] using q2, by simpa [Nat.add_assoc] using q3, by simpa [Nat.add_assoc] using q4, by simpa [Nat.add_assoc] using q5⟩
theorem CellsAt.srcN {P : Program} {w : World} {a : Option Addr} {vs : List Value} {size n : Nat} (h : CellsAt w a vs) (hlen : vs.length = n * size) (hone : ∀ u ∈ vs, u.oneCell' = true) {tx e' : TypeId} (hk : P.underlying tx = some (.slice e')) (cap : Nat) (hsz : 0 < size) : Src P size tx (.slice a n cap) n vs w := by
 cases a with
 | none =>
   have : vs = [] := by
     cases vs with
     | nil => rfl
     | cons c r => obtain ⟨b, off, hh, _⟩ := h 0 (by simp); cases hh
   subst this
   have hn : n = 0 := by
     rw [List.length_nil] at hlen
     rcases Nat.eq_zero_or_pos n with h0 | h0
     · exact h0
     · have := Nat.mul_pos h0 hsz; omega
   subst hn
   exact Src.ofNil w hk cap
 | some a =>
   refine Src.ofSlice w hk a _ cap vs hlen (fun j u hu => ?_) hone
   obtain ⟨hj, he⟩ := List.getElem?_eq_some_iff.1 hu
   obtain ⟨b, off, hh, hc⟩ := h j hj
   cases hh
   rw [Addr_add, hc, he]
theorem CellsAt.ownN {w : World} {base n size : Nat} {e : TypeId} {a : Option Addr} {len cap : Nat} {vs : List Value} (h : w.ownsRow base e size (.slice a len cap) n vs) : CellsAt w a vs := by
 intro i hi
 rcases h.2 with ⟨hv, hn⟩ | ⟨g, cap', cur, hv, hb, hg, hnc, _, hcs, ht⟩
 · have := h.1
   rw [hn] at this
   omega
 · cases hv
   refine ⟨g, 0, rfl, ?_⟩
   rw [Nat.zero_add]
   have h1 := cell_of_row w g i cur e (0, 0) hg
   rw [h1]
   have h2 : cur.toList.take vs.length = vs := by have := h.1; first | exact ht | (rw [this]; exact ht)
   have h3 : (cur.toList.take vs.length)[i]? = some vs[i] := by rw [h2]; simp [hi]
   rw [List.getElem?_take_of_lt hi] at h3
   simpa using h3
theorem elT : ElemT Try.prog 22 47 (.agg #[.int .i64 0, .int .i64 0, .string ⟨#[]⟩, .int .i64 0, .int .i64 0, .string ⟨#[]⟩]) 6 64 := ElemT.mk Try.underlying22 (by kernel_rfl) (by simp [Value.cells])
theorem step_app {P : Program} {w : World} {ops : Array Oper} {o : Oper} {a : Act} {K : Act → World → Prop} {Q : Exit → Act → World → Prop} {E : Prop} (hgd : o.guard = none) (s x : Operand) (t tx : TypeId)
   (ho : o.op = .call { callee := .builtin .append, args := #[s, x], argTypes := #[t, tx] })
   (base : Nat) (e : TypeId) (z : Value) (size bytes : Nat) (ht : ElemT P t e z size bytes)
   (v : Value) (n : Nat) (xs : List Value) (hv : a.eval s = v) (hown : w.ownsRow base e size v n xs)
   (xv : Value) (m : Nat) (news : List Value) (hx : a.eval x = xv) (hs : Src P size tx xv m news w)
   (hlen : n + m ≤ maxLen) (hby : (n + m) * bytes ≤ 140737488355328) (hbase : base ≤ w.heap.size)
   (h : ∀ v' w', w'.ownsRow base e size v' (n + m) (xs ++ news) → w.grownBy w' v.ownBlock → Below base w w' → (v'.ownBlock = v.ownBlock ∨ v'.ownBlock = some w.heap.size) → K (a.put o.dst v') w') :
   if Region.wanted o (yielded ops a.tmps) = true then Oper.wp P o a w K Q else E := by
 have hw : Region.wanted o (yielded ops a.tmps) = true := by simp [Region.wanted, hgd]
 rw [if_pos hw]
 obtain ⟨h1, i, h2, h3, h4, h5, h6⟩ := ht
 obtain ⟨v', w', hr, g2, g3, g4, _⟩ := run_append_own_src (P := P) w base t tx o.type e i z size bytes h1 h2 h3 h4 h5 h6 v n xs hown xv m news hs hlen hby hbase
 unfold Oper.wp execOp
 simp only [ho, resolve, invoke, builtin, Sem.run_bind, Sem.run_pure, Result.andThen_ok, List.map_toArray, List.map_cons, List.map_nil, hv, hx, hr]
 exact h v' w' g2 g3 (below_of_grown hown hbase g3) g4
end Go.Proofs.Ytnpiepimajippaa
namespace Go.Proofs.Ytnpiepimajippaa
open Go.RowKit St
theorem toList_iff (a b : ByteArray) : (a.toList = b.toList) = (a = b) := propext ⟨fun h => Pm.key_ext (by rw [← ByteArray.toList_eq, ← ByteArray.toList_eq]; exact h), fun h => by rw [h]⟩
theorem sv_eql (s t : Sv) (w : World) : (binOp .eql 41 (.agg #[.int .i64 s.g, .int .i64 s.r, .string s.l, .int .i64 s.n, .int .i64 s.i]) (.agg #[.int .i64 t.g, .int .i64 t.r, .string t.l, .int .i64 t.n, .int .i64 t.i])).run Try.prog w = .ok (.bool (decide (s = t))) w := by
 rw [run_eql_struct]
 simp [go_sem, Try.underlying41]
 obtain ⟨g, r, l, n, i⟩ := s
 obtain ⟨g', r', l', n', i'⟩ := t
 simp only [toList_iff, Sv.mk.injEq]
 by_cases h1 : g = g' <;> by_cases h2 : r = r' <;> by_cases h3 : l = l' <;> by_cases h4 : n = n' <;> by_cases h5 : i = i' <;> simp [h1, h2, h3, h4, h5]
theorem sv_neq (s t : Sv) (w : World) : (binOp .neq 41 (.agg #[.int .i64 s.g, .int .i64 s.r, .string s.l, .int .i64 s.n, .int .i64 s.i]) (.agg #[.int .i64 t.g, .int .i64 t.r, .string t.l, .int .i64 t.n, .int .i64 t.i])).run Try.prog w = .ok (.bool (!decide (s = t))) w := by
 rw [run_neq_struct]
 simp [go_sem, Try.underlying41]
 obtain ⟨g, r, l, n, i⟩ := s
 obtain ⟨g', r', l', n', i'⟩ := t
 simp only [toList_iff, Sv.mk.injEq]
 by_cases h1 : g = g' <;> by_cases h2 : r = r' <;> by_cases h3 : l = l' <;> by_cases h4 : n = n' <;> by_cases h5 : i = i' <;> simp [h1, h2, h3, h4, h5]
theorem ev_eql (s t : Ev) (w : World) : (binOp .eql 47 (.agg #[.int .i64 s.1.g, .int .i64 s.1.r, .string s.1.l, .int .i64 s.1.n, .int .i64 s.1.i, .string s.2]) (.agg #[.int .i64 t.1.g, .int .i64 t.1.r, .string t.1.l, .int .i64 t.1.n, .int .i64 t.1.i, .string t.2])).run Try.prog w = .ok (.bool (decide (s = t))) w := by
 rw [run_eql_struct]
 simp [go_sem, Try.underlying47]
 obtain ⟨⟨g, r, l, n, i⟩, x⟩ := s
 obtain ⟨⟨g', r', l', n', i'⟩, x'⟩ := t
 simp only [toList_iff, Sv.mk.injEq, Prod.mk.injEq]
 by_cases h1 : g = g' <;> by_cases h2 : r = r' <;> by_cases h3 : l = l' <;> by_cases h4 : n = n' <;> by_cases h5 : i = i' <;> by_cases h6 : x = x' <;> simp [h1, h2, h3, h4, h5, h6]
theorem ev_neq (s t : Ev) (w : World) : (binOp .neq 47 (.agg #[.int .i64 s.1.g, .int .i64 s.1.r, .string s.1.l, .int .i64 s.1.n, .int .i64 s.1.i, .string s.2]) (.agg #[.int .i64 t.1.g, .int .i64 t.1.r, .string t.1.l, .int .i64 t.1.n, .int .i64 t.1.i, .string t.2])).run Try.prog w = .ok (.bool (!decide (s = t))) w := by
 rw [run_neq_struct]
 simp [go_sem, Try.underlying47]
 obtain ⟨⟨g, r, l, n, i⟩, x⟩ := s
 obtain ⟨⟨g', r', l', n', i'⟩, x'⟩ := t
 simp only [toList_iff, Sv.mk.injEq, Prod.mk.injEq]
 by_cases h1 : g = g' <;> by_cases h2 : r = r' <;> by_cases h3 : l = l' <;> by_cases h4 : n = n' <;> by_cases h5 : i = i' <;> by_cases h6 : x = x' <;> simp [h1, h2, h3, h4, h5, h6]
theorem ne_at {α : Type} [DecidableEq α] {l m : List α} {k : Nat} (h1 : k < l.length) (h2 : k < m.length) (h : l[k] ≠ m[k]) : decide (l = m) = false := by
 rw [decide_eq_false_iff_not]
 intro e
 subst e
 exact h rfl
theorem eq_all {α : Type} [DecidableEq α] {l m : List α} (hl : l.length = m.length) (h : l.take l.length = m.take l.length) : decide (l = m) = true := by
 rw [decide_eq_true_eq]
 rw [List.take_length, hl, List.take_length] at h
 exact h
theorem take_eq {α : Type} {l m : List α} {k : Nat} (h1 : k < l.length) (h2 : k < m.length) (h : l.take k = m.take k) (e : l[k] = m[k]) : l.take (k + 1) = m.take (k + 1) := by
 rw [List.take_succ_eq_append_getElem h1, List.take_succ_eq_append_getElem h2, h, e]
set_option maxRecDepth 100000 in
set_option maxHeartbeats 2000000 in
theorem ref9_SameElements (l m : List Ev) (a b : Option Addr) (n1 n2 c1 c2 : Nat) (w : World) (hl : CellsAt w a (elsV l)) (hm : CellsAt w b (elsV m)) (hn1 : n1 = l.length) (hn2 : n2 = m.length) (hb : n1 ≤ 9223372036854775807) :
   Calls Try.prog 43 #[.slice a n1 c1, .slice b n2 c2] w fun e w' => e = .returned (.bool (decide (l = m))) ∧ Below w.heap.size w w' := by
 have HL := Lib.hid hl
 have HM := Lib.hid hm
 clear hl hm
 have EN := ev_neq
 go_enter Try.func43, Try.ntmps43
 by_cases hlen : n1 = n2
 · subst hlen
   have hN : Hid (l.length = m.length) := Lib.hid (by omega)
   have E : Hid (l.take n1 = m.take n1 → decide (l = m) = true) := Lib.hid (fun h => eq_all hN.out (by rw [← hn1]; exact h))
   have F : Hid (∀ k (h1 : k < l.length) (h2 : k < m.length), l[k] ≠ m[k] → decide (l = m) = false) := Lib.hid (fun k h1 h2 h => ne_at h1 h2 h)
   generalize decide (l = m) = res at *
   go_wp2_with fail
   go_loopw [5] (fun i wr => ∃ k : Nat, k ≤ n1 ∧ i = .int .i64 (k : Int) ∧ Hid (l.take k = m.take k) ∧ Hid (Below w.heap.size w wr)) (fun i _ => n1 - (intOf i).toNat)
   case atStart => exact ⟨0, Nat.zero_le _, rfl, Lib.hid rfl, Lib.hid (Below.refl _ _)⟩
   case round =>
     obtain ⟨k, hk, rfl, HT, HB⟩ := hrel
     by_cases hlt : k < n1
     · have hk1 : k < l.length := by omega
       have hk2 : k < m.length := by omega
       obtain ⟨ba, oa, rfl, ca⟩ := els_get (HL.out.below HB.out rfl) k hk1
       obtain ⟨bb, ob, rfl, cb⟩ := els_get (HM.out.below HB.out rfl) k hk2
       obtain ⟨p0, p1, p2, p3, p4, p5⟩ := ca
       obtain ⟨q0, q1, q2, q3, q4, q5⟩ := cb
       have G1 : Hid (l[k] ≠ m[k] → res = false) := Lib.hid (F.out k hk1 hk2)
       have G2 : Hid (l[k] = m[k] → l.take (k + 1) = m.take (k + 1)) := Lib.hid (take_eq hk1 hk2 HT.out)
       generalize l[k] = x at *
       generalize m[k] = y at *
       have hki : (k : Int) < (n1 : Int) := by omega
       by_cases hxy : x = y
       · have H := Lib.hid (G2.out hxy)
         have hd : decide (x = y) = true := decide_eq_true hxy
         clear hxy
         go_wp2_with fail
         go_quiet (fail)
         go_wp2_with fail
         refine ⟨⟨k + 1, by omega, by go_num, H, Lib.hid (below_drews HB.out _)⟩, by simp [intOf]; omega⟩
       · have hr := Lib.hid (G1.out hxy)
         have hd : decide (x = y) = false := decide_eq_false hxy
         clear hxy
         go_wp2_with fail
         go_quiet (fail)
         go_wp2_with fail
         go_ret
         rw [hr.out]
         exact ⟨rfl, below_drews HB.out _⟩
     · obtain rfl : k = n1 := by omega
       have hr := Lib.hid (E.out HT.out)
       go_wp2_with fail
       go_ret
       rw [hr.out]
       exact ⟨rfl, HB.out⟩
 · have hr : Hid (decide (l = m) = false) := Lib.hid (by rw [decide_eq_false_iff_not]; rintro rfl; omega)
   have hne : ((n1 : Int) == (n2 : Int)) = false := by simp; omega
   have hne' : ¬ (n1 : Int) = (n2 : Int) := by omega
   generalize decide (l = m) = res at *
   go_wp2_with fail
   go_ret
   rw [hr.out]
   exact ⟨rfl, Below.refl _ _⟩
end Go.Proofs.Ytnpiepimajippaa
namespace Go.Proofs.Ytnpiepimajippaa
open Go.RowKit St
theorem take_none {α : Type} {l : List α} {k : Nat} {p : α → Prop} (hk : k < l.length) (h : ∀ y ∈ l.take k, p y) (hx : p l[k]) : ∀ y ∈ l.take (k + 1), p y := by
 intro y hy
 rw [List.take_succ_eq_append_getElem hk, List.mem_append, List.mem_singleton] at hy
 rcases hy with hy | rfl
 · exact h y hy
 · exact hx
theorem mayV_bad {l : List Ev} {k : Nat} (h : mayV (l.take k) = false) : mayV l = false := by
 cases e : mayV l with
 | false => rfl
 | true =>
   rw [← List.take_append_drop k l] at e
   rw [mayV_left e] at h
   exact h
theorem mayV_next {l : List Ev} {k : Nat} (hk : k < l.length) : mayV (l.take (k + 1)) = true ↔ mayV (l.take k) = true ∧ okV l[k] = true ∧ ∀ y ∈ l.take k, y.1 ≠ l[k].1 := by
 rw [List.take_succ_eq_append_getElem hk, mayV_snoc]
set_option maxRecDepth 100000 in
set_option maxHeartbeats 4000000 in
theorem ref11_May (l : List Ev) (a : Option Addr) (n c : Nat) (w : World) (hl : CellsAt w a (elsV l)) (hn : n = l.length) (hb : n ≤ 9223372036854775807) (hsz : ∀ e ∈ l, e.1.l.size ≤ 9223372036854775807) :
   Calls Try.prog 89 #[.slice a n c] w fun e w' => e = .returned (.bool (mayV l)) ∧ Below w.heap.size w w' := by
 have HL := Lib.hid hl
 have HSZ := Lib.hid hsz
 clear hl hsz
 have EN := sv_eql
 have F0 : Hid (∀ k (hk : k < l.length), (okV l[k] = false ∨ ∃ y ∈ l.take k, y.1 = l[k].1) → mayV l = false) := Lib.hid (fun k hk h => mayV_bad (k := k + 1) (by
   cases e : mayV (l.take (k + 1)) with
   | false => rfl
   | true =>
     obtain ⟨_, h2, h3⟩ := (mayV_next hk).1 e
     rcases h with h | ⟨y, hy, h⟩
     · rw [h2] at h; cases h
     · exact absurd h (h3 y hy)))
 have F1 : Hid (∀ k (hk : k < l.length), mayV (l.take k) = true → okV l[k] = true → (∀ y ∈ l.take k, y.1 ≠ l[k].1) → mayV (l.take (k + 1)) = true) := Lib.hid (fun k hk h1 h2 h3 => (mayV_next hk).2 ⟨h1, h2, h3⟩)
 have F2 : Hid (mayV (l.take n) = true → mayV l = true) := Lib.hid (fun h => by rw [hn, List.take_length] at h; exact h)
 generalize mayV l = res at *
 have HNN := Lib.hid hn
 clear hn
 go_enter Try.func89, Try.ntmps89
 go_wp2_with fail
 go_loopw [3] (fun i wr => ∃ k : Nat, k ≤ n ∧ i = .int .i64 (k : Int) ∧ Hid (mayV (l.take k) = true) ∧ Hid (Below w.heap.size w wr)) (fun i _ => n - (intOf i).toNat)
 case atStart => exact ⟨0, Nat.zero_le _, rfl, Lib.hid (by rw [List.take_zero]; exact mayV_nil), Lib.hid (Below.refl _ _)⟩
 case round =>
   obtain ⟨i, hi, rfl, HT, HB⟩ := hrel
   by_cases hlt : i < n
   · have hk1 : i < l.length := by have := HNN.out; omega
     have HC := Lib.hid (HL.out.below HB.out rfl)
     obtain ⟨ba, oa, rfl, ca⟩ := els_get HC.out i hk1
     obtain ⟨p0, p1, p2, p3, p4, p5⟩ := ca
     have GB := Lib.hid (F0.out i hk1)
     have GS := Lib.hid (F1.out i hk1 HT.out)
     have HZ : Hid (l[i].1.l.size ≤ 9223372036854775807) := Lib.hid (HSZ.out _ (List.getElem_mem hk1))
     have hki : (i : Int) < (n : Int) := by omega
     have hget : ∀ k (hk : k < i), l[k]'(by omega) ∈ l.take i := fun k hk => by rw [List.mem_take_iff_getElem]; exact ⟨k, by omega, rfl⟩
     have OKX : Hid (okV l[i] = (l[i].1.ok && decide (l[i].2.size ≤ 256))) := Lib.hid rfl
     have HG := Lib.hid hget
     clear hget
     generalize hx : l[i] = x at *
     have HX := Lib.hid hx
     clear hx
     go_wp2_with fail
     refine (ref5_Text x.2 _).mono ?_
     rintro e w1 ⟨rfl, rfl⟩
     by_cases hfit : x.2.size ≤ 256
     · have hd : decide (x.2.size ≤ 256) = true := decide_eq_true hfit
       go_wp2_with fail
       refine (ref6_Stamp x.1 _ HZ.out).mono ?_
       rintro e w2 ⟨rfl, hbb⟩
       have HC2 := Lib.hid (HC.out.below hbb rfl)
       have HB2 := Lib.hid (HB.out.trans (hbb.mono HB.out.size))
       clear p0 p1 p2 p3 p4 p5 hbb HC HB
       cases hok : x.1.ok with
       | false =>
         have hr := Lib.hid (GB.out (.inl (by rw [OKX.out, hok]; rfl)))
         clear hok
         go_wp2_with fail
         go_ret
         rw [hr.out]
         exact ⟨rfl, HB2.out⟩
       | true =>
         have hokx := Lib.hid (show okV x = true by rw [OKX.out, hok, hd]; rfl)
         clear hok OKX hd hfit
         go_wp2_with fail
         go_loopw [4] (fun j wr => ∃ k : Nat, k ≤ i ∧ j = .int .i64 (k : Int) ∧ Hid (∀ y ∈ l.take k, y.1 ≠ x.1) ∧ Hid (CellsAt wr (some ⟨ba, oa, none⟩) (elsV l)) ∧ Hid (Below w.heap.size w wr)) (fun j _ => i - (intOf j).toNat)
         case atStart => exact ⟨0, Nat.zero_le _, rfl, Lib.hid (fun y hy => (by cases hy)), HC2, HB2⟩
         clear HC2 HB2
         case round =>
           obtain ⟨k, hk, rfl, HT2, HC, HB⟩ := hrel
           by_cases hlt2 : k < i
           · obtain ⟨_, _, e1, ca⟩ := els_get HC.out i hk1
             cases e1
             obtain ⟨_, _, e2, cb⟩ := els_get HC.out k (by omega)
             cases e2
             rw [HX.out] at ca
             obtain ⟨p0, p1, p2, p3, p4, p5⟩ := ca
             obtain ⟨q0, q1, q2, q3, q4, q5⟩ := cb
             have hki2 : (k : Int) < (n : Int) := by omega
             have hkl : k < l.length := by omega
             have G1 : Hid (l[k].1 = x.1 → res = false) := Lib.hid (fun h => GB.out (.inr ⟨l[k], HG.out k hlt2, h⟩))
             have G2 : Hid (l[k].1 ≠ x.1 → ∀ y ∈ l.take (k + 1), y.1 ≠ x.1) := Lib.hid (fun h => take_none hkl HT2.out h)
             generalize l[k] = y at *
             by_cases hxy : y.1 = x.1
             · have hr := Lib.hid (G1.out hxy)
               have hd : decide (y.1 = x.1) = true := decide_eq_true hxy
               clear hxy
               go_wp2_with fail
               go_quiet (fail)
               go_wp2_with fail
               go_ret
               rw [hr.out]
               exact ⟨rfl, below_drews HB.out _⟩
             · have H := Lib.hid (G2.out hxy)
               have hd : decide (y.1 = x.1) = false := decide_eq_false hxy
               clear hxy
               go_wp2_with fail
               go_quiet (fail)
               go_wp2_with fail
               go_roundw
               case rel => exact ⟨k + 1, by omega, by go_num, H, Lib.hid (HC.out.below ((Below.refl _ _) |> fun h => below_drews h _) rfl), Lib.hid (below_drews HB.out _)⟩
               case measure => simp [intOf]; omega
           · obtain rfl : k = i := by omega
             have H := Lib.hid (GS.out hokx.out HT2.out)
             go_wp2_with fail
             go_roundw
             case rel => exact ⟨k + 1, by omega, by go_num, H, HB⟩
             case measure => simp [intOf]; omega
     · have hd : decide (x.2.size ≤ 256) = false := decide_eq_false hfit
       have hr := Lib.hid (GB.out (.inl (by rw [OKX.out, hd]; simp)))
       go_wp2_with fail
       go_ret
       rw [hr.out]
       exact ⟨rfl, HB.out⟩
   · obtain rfl : i = n := by omega
     have hr := Lib.hid (F2.out HT.out)
     go_wp2_with fail
     go_ret
     rw [hr.out]
     exact ⟨rfl, HB.out⟩
end Go.Proofs.Ytnpiepimajippaa
