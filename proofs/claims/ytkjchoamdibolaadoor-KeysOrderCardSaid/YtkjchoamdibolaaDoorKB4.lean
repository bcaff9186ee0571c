/- Words, contracts and walks that the proof stands on (KeepX KsL TrC TrW ElS KuD). -/
import Derived.Test.YtkjchoamdibolaaDoorKB1
import Derived.Test.YtkjchoamdibolaaDoorKB2
import Derived.Test.YtkjchoamdibolaaDoorKB3
namespace Go.Proofs.YtkjchoamdibolaaDoor
open Go.RowKit
structure KeepX (Ex : Nat → TypeId → Prop) (A B : World) : Prop where
 os : B.os = A.os
 tape : B.tape = A.tape
 output : B.output = A.output
 size : A.heap.size ≤ B.heap.size
 rest : ∀ k o, A.heap[k]? = some o → (∀ c t fr, o = .cells c t fr → ¬ Ex k t) → B.heap[k]? = some o
theorem KeepX.refl {Ex : Nat → TypeId → Prop} (A : World) : KeepX Ex A A := ⟨rfl, rfl, rfl, Nat.le_refl _, fun _ _ h _ => h⟩
theorem KeepX.trans {Ex : Nat → TypeId → Prop} {A B C : World} (h : KeepX Ex A B) (k : KeepX Ex B C) : KeepX Ex A C :=
 ⟨k.os.trans h.os, k.tape.trans h.tape, k.output.trans h.output, Nat.le_trans h.size k.size, fun i o ho ht => k.rest i o (h.rest i o ho ht) ht⟩
theorem KeepX.ofBelow {Ex : Nat → TypeId → Prop} {A B : World} (h : Below A.heap.size A B) : KeepX Ex A B :=
 ⟨h.os, h.tape, h.output, h.size, fun k _ ho _ => (h.block k (Array.getElem?_eq_some_iff.1 ho).1).trans ho⟩
theorem KeepX.drew {Ex : Nat → TypeId → Prop} {A B : World} (h : KeepX Ex A B) : KeepX Ex A B.drew := h.trans (KeepX.ofBelow (Below.refl _ B).drew)
theorem KeepX.alloc {Ex : Nat → TypeId → Prop} {A B : World} (h : KeepX Ex A B) (o : Obj) : KeepX Ex A (B.alloc o) :=
 h.trans (KeepX.ofBelow ((Below.refl _ B).alloc (Nat.le_refl _) o))
theorem KeepX.row {Ex : Nat → TypeId → Prop} {A B : World} (h : KeepX Ex A B) {b : Nat} {cs : Array Value} {t : TypeId} {fr : Nat × Nat} (hb : A.heap[b]? = some (.cells cs t fr)) (ht : ¬ Ex b t) : B.heap[b]? = some (.cells cs t fr) :=
 h.rest b _ hb fun c t' fr' e => by cases e; exact ht
theorem KeepX.setRow {Ex : Nat → TypeId → Prop} {A B : World} (h : KeepX Ex A B) {X : Nat} {cs : Array Value} {t : TypeId} {fr : Nat × Nat} (hX : B.heap[X]? = some (.cells cs t fr)) (ht : Ex X t) (i : Nat) (v : Value) : KeepX Ex A (B.setCell ⟨X, i, none⟩ v) :=
 ⟨h.os, h.tape, h.output, by simpa [World.setCell] using h.size, fun k o ho hn => (Below.heap_setCell _ _ _ _ (by
  show k ≠ X
  rintro rfl
  have h1 := h.rest k o ho hn
  rw [hX] at h1
  cases h1
  exact hn _ _ _ rfl ht)).trans (h.rest k o ho hn)⟩
def ChE (Ex : Nat → TypeId → Prop) (ws : List World) (w : World) : Prop := ∀ W ∈ ws, KeepX Ex W w
theorem ChE.one {Ex : Nat → TypeId → Prop} (w : World) : ChE Ex [w] w := fun W hW => by
 obtain rfl := List.mem_singleton.1 hW
 exact KeepX.refl _
theorem ChE.push {Ex : Nat → TypeId → Prop} {ws : List World} {w w' : World} (h : ChE Ex ws w) (hb : KeepX Ex w w') : ChE Ex (w' :: ws) w' := fun W hW => by
 rcases List.mem_cons.1 hW with rfl | hW
 · exact KeepX.refl _
 · exact (h W hW).trans hb
theorem ChE.next {Ex : Nat → TypeId → Prop} {ws : List World} {w w' : World} (h : ChE Ex ws w) (hb : KeepX Ex w w') : ChE Ex ws w' := fun W hW => (h W hW).trans hb
theorem ChE.to {Ex : Nat → TypeId → Prop} {ws : List World} {w : World} (h : ChE Ex ws w) (W : World) (hW : W ∈ ws) : KeepX Ex W w := h W hW
section
variable {P : Program} {ops : Array Oper} {Q : Exit → Act → World → Prop} {md : Region.Mode}
end
end Go.Proofs.YtkjchoamdibolaaDoor
namespace Go.Proofs.YtkjchoamdibolaaDoor
open Go.RowKit Ku St Pm
def P3 (p q r : Plc) (i : Nat) : Plc := match i with
 | 0 => p
 | 1 => q
 | _ => r
theorem step_store_row {P : Program} {ops : Array Oper} {o : Oper} {a : Act} {w : World} {K : Act → World → Prop} {Q : Exit → Act → World → Prop} {E : Prop} (hgd : o.guard = none) (ty : TypeId) (x y : Operand) (ho : o.op = .store ty x y)
 (g : Nat) (cells : Array Value) (hx : a.eval x = .pointer (some ⟨g, 0, none⟩)) (hy : a.eval y = .agg cells)
 (t : TypeId) (old : Array Value) (hg : w.heap[g]? = some (.cells old t (0, 0))) (hi : (P.info? ty).map (·.size) = some cells.size)
 (hold : old.size = cells.size) (h1 : cells.all (·.oneCell') = true)
 (h : K (a.put o.dst undef) (w.setRow g cells)) : if Region.wanted o (yielded ops a.tmps) = true then Oper.wp P o a w K Q else E := by
 have hw : Region.wanted o (yielded ops a.tmps) = true := by simp [Region.wanted, hgd]
 rw [if_pos hw]
 exact wp_store_row ty x y ho g cells hx hy t old hg hi hold h1 h
theorem pl_one (p : Plc) : (#[.slice p.a p.n p.c, .int .i64 p.k, .string p.x] : Array Value).all (·.oneCell') = true := by simp [Value.oneCell']
theorem made_at {w w8 : World} {o : Obj} (hw : w8 = w.alloc o) : w8.heap[w.heap.size]? = some o := by rw [hw]; exact heap_alloc_new w o
end Go.Proofs.YtkjchoamdibolaaDoor
namespace Go.Proofs.YtkjchoamdibolaaDoor
namespace Pm
section
variable {α : Type}
def rn (N : Nat) : Tr α → Prop
 | .nil => False
 | .node b _ _ _ _ => N ≤ b
def hv (N : Nat) : Tr α → Prop
 | .nil => False
 | .node _ l _ _ r => (ht r < ht l ∧ rn N l) ∨ (ht l < ht r ∧ rn N r)
end
end Pm
end Go.Proofs.YtkjchoamdibolaaDoor
namespace Go.Proofs.YtkjchoamdibolaaDoor
namespace Pm
section
variable {α : Type}
def lk (z : α) : List (ByteArray × α) → ByteArray → α × Bool
 | [], _ => (z, false)
 | x :: l, k => if x.1 = k then (x.2, true) else lk z l k
theorem lk_none {z : α} {l : List (ByteArray × α)} {k : ByteArray} (h : ∀ x ∈ l, x.1 ≠ k) : lk z l k = (z, false) := by
 induction l with
 | nil => rfl
 | cons x l ih =>
  simp only [lk]
  rw [if_neg (h x List.mem_cons_self)]
  exact ih fun y hy => h y (List.mem_cons_of_mem _ hy)
theorem lk_left {z : α} {l m : List (ByteArray × α)} {k : ByteArray} (h : ∀ x ∈ m, x.1 ≠ k) : lk z (l ++ m) k = lk z l k := by
 induction l with
 | nil => exact lk_none h
 | cons x l ih =>
  simp only [List.cons_append, lk]
  rw [ih]
theorem lk_right {z : α} {l m : List (ByteArray × α)} {k : ByteArray} (h : ∀ x ∈ l, x.1 ≠ k) : lk z (l ++ m) k = lk z m k := by
 induction l with
 | nil => rfl
 | cons x l ih =>
  simp only [List.cons_append, lk]
  rw [if_neg (h x List.mem_cons_self)]
  exact ih fun y hy => h y (List.mem_cons_of_mem _ hy)
def nrm (z : α) (p : α × Bool) : α × Bool := if p.2 = true then p else (z, false)
theorem split_lt {N : Nat} {k : ByteArray} {t a x c : Tr α} (h : SplitR N k t a x c) (hs : Srt (items t)) : (∀ y ∈ items a, klt y.1 k = true) ∧ (∀ y ∈ items c, klt k y.1 = true) := by
 induction h with
 | nil => exact ⟨fun y hy => (by cases hy), fun y hy => (by cases hy)⟩
 | lt h1 h2 h3 ih =>
  obtain ⟨s1, s2, s3⟩ := srt_append.1 hs
  obtain ⟨s4, s5⟩ := srt_cons.1 s2
  obtain ⟨i1, i2⟩ := ih s1
  refine ⟨i1, fun y hy => ?_⟩
  rw [h3.items] at hy
  rcases List.mem_append.1 hy with hy | hy
  · exact i2 y hy
  · rcases List.mem_cons.1 hy with rfl | hy
    · exact h1
    · exact klt_trans h1 (s4 y hy)
 | gt h1 h2 h3 ih =>
  obtain ⟨s1, s2, s3⟩ := srt_append.1 hs
  obtain ⟨s4, s5⟩ := srt_cons.1 s2
  obtain ⟨i1, i2⟩ := ih s5
  refine ⟨fun y hy => ?_, i2⟩
  rw [h3.items] at hy
  rcases List.mem_append.1 hy with hy | hy
  · exact klt_trans (s3 y hy _ List.mem_cons_self) h1
  · rcases List.mem_cons.1 hy with rfl | hy
    · exact h1
    · exact i1 y hy
 | eq h1 =>
  subst h1
  obtain ⟨s1, s2, s3⟩ := srt_append.1 hs
  obtain ⟨s4, s5⟩ := srt_cons.1 s2
  exact ⟨fun y hy => s3 y hy _ List.mem_cons_self, fun y hy => s4 y hy⟩
theorem split_mid {N : Nat} {k : ByteArray} {t a x c : Tr α} (h : SplitR N k t a x c) : here x = [] ∨ ∃ v, here x = [(k, v)] := by
 rw [h.seek]
 cases e : Pm.seek k t with
 | nil => exact .inl rfl
 | node b l k0 v0 r =>
  obtain ⟨rfl, _⟩ := seek_some e
  exact .inr ⟨v0, rfl⟩
structure Parts (z : α) (k : ByteArray) (t a x c : Tr α) : Prop where
 sa : Srt (items a)
 sc : Srt (items c)
 la : ∀ y ∈ items a, klt y.1 k = true
 lc : ∀ y ∈ items c, klt k y.1 = true
 ea : ∀ q, klt q k = true → lk z (items a) q = lk z (items t) q
 ec : ∀ q, klt k q = true → lk z (items c) q = lk z (items t) q
 ma : ∀ y ∈ items a, y ∈ items t
 mc : ∀ y ∈ items c, y ∈ items t
 ex : lk z (items t) k = lk z (here x) k
 sz : sz t = sz a + (here x).length + sz c
theorem SplitR.parts {N : Nat} {k : ByteArray} {t a x c : Tr α} (z : α) (h : SplitR N k t a x c) (hs : Srt (Pm.items t)) : Parts z k t a x c := by
 obtain ⟨h1, h2⟩ := split_lt h hs
 have hi := h.items
 have hm := split_mid h
 have hx : ∀ y ∈ here x, y.1 = k := by
  rcases hm with e | ⟨v, e⟩
  · rw [e]; intro y hy; cases hy
  · rw [e]; intro y hy; rw [List.mem_singleton.1 hy]
 have hs0 := hs
 rw [hi, List.append_assoc] at hs
 obtain ⟨s1, s2, _⟩ := srt_append.1 hs
 obtain ⟨_, s3, _⟩ := srt_append.1 s2
 refine ⟨s1, s3, h1, h2, fun q hq => ?_, fun q hq => ?_, fun y hy => ?_, fun y hy => ?_, ?_, ?_⟩
 · rw [hi, List.append_assoc, lk_left]
   intro y hy
   rcases List.mem_append.1 hy with hy | hy
   · rw [hx y hy]; exact Ne.symm (klt_ne hq)
   · exact Ne.symm (klt_ne (klt_trans hq (h2 y hy)))
 · rw [hi, lk_right]
   intro y hy
   rcases List.mem_append.1 hy with hy | hy
   · exact klt_ne (klt_trans (h1 y hy) hq)
   · rw [hx y hy]; exact klt_ne hq
 · rw [hi]; exact List.mem_append_left _ (List.mem_append_left _ hy)
 · rw [hi]; exact List.mem_append_right _ hy
 · rw [hi, List.append_assoc, lk_right (fun y hy => klt_ne (h1 y hy)), lk_left (fun y hy => Ne.symm (klt_ne (h2 y hy)))]
 · rw [← sz_items, hi, ← sz_items a, ← sz_items c]; simp; omega
def Dj (s a : Tr α) : Prop := ∀ b ∈ blocks s, b ∉ blocks a
structure WlkI (z : α) (B0 A0 O0 : ByteArray → α × Bool) (C : ByteArray → Prop) (s a o : Tr α) : Prop where
 ss : Srt (items s)
 sa : Srt (items a)
 so : Srt (items o)
 bs : Bal s
 ba : Bal a
 bo : Bal o
 es : ∀ k, C k → lk z (items s) k = B0 k
 ea : ∀ k, C k → lk z (items a) k = A0 k
 eo : ∀ k, C k → lk z (items o) k = O0 k
 ins : ∀ x ∈ items s, C x.1
 ina : ∀ x ∈ items a, C x.1
 ino : ∀ x ∈ items o, C x.1
structure WlkO (z : α) (R B0 A0 O0 : ByteArray → α × Bool) (C : ByteArray → Prop) (s a o m : Tr α) (asked : List ByteArray) : Prop where
 srt : Srt (items m)
 bal : Bal m
 inC : ∀ x ∈ items m, C x.1
 nd : asked.Nodup
 sub : ∀ k ∈ asked, C k ∧ ((A0 k).2 = true ∨ (O0 k).2 = true)
 len : asked.length ≤ sz a + sz o
 siz : sz m ≤ sz a + sz o
 ans : ∀ k, C k → (k ∈ asked ∧ lk z (items m) k = nrm z (R k)) ∨ (k ∉ asked ∧ (((A0 k = O0 k ∨ B0 k = O0 k) ∧ lk z (items m) k = A0 k) ∨ (B0 k = A0 k ∧ lk z (items m) k = O0 k ∧ (Dj s a → (B0 k).2 = false))))
variable {z : α} {R B0 A0 O0 : ByteArray → α × Bool} {C : ByteArray → Prop} {s a o : Tr α}
theorem WlkI.left {key : ByteArray} {sl sx sr al ax ar ol ox or' : Tr α} {N1 N2 N3 : Nat} (h : WlkI z B0 A0 O0 C s a o) (h1 : SplitR N1 key s sl sx sr) (h2 : SplitR N2 key a al ax ar) (h3 : SplitR N3 key o ol ox or') :
 WlkI z B0 A0 O0 (fun k => C k ∧ klt k key = true) sl al ol ∧ WlkI z B0 A0 O0 (fun k => C k ∧ klt key k = true) sr ar or' := by
 have p1 := h1.parts z h.ss
 have p2 := h2.parts z h.sa
 have p3 := h3.parts z h.so
 exact ⟨⟨p1.sa, p2.sa, p3.sa, (h1.bal h.bs).1, (h2.bal h.ba).1, (h3.bal h.bo).1, fun k hk => (p1.ea k hk.2).trans (h.es k hk.1), fun k hk => (p2.ea k hk.2).trans (h.ea k hk.1), fun k hk => (p3.ea k hk.2).trans (h.eo k hk.1),
  fun x hx => ⟨h.ins x (p1.ma x hx), p1.la x hx⟩, fun x hx => ⟨h.ina x (p2.ma x hx), p2.la x hx⟩, fun x hx => ⟨h.ino x (p3.ma x hx), p3.la x hx⟩⟩,
  ⟨p1.sc, p2.sc, p3.sc, (h1.bal h.bs).2, (h2.bal h.ba).2, (h3.bal h.bo).2, fun k hk => (p1.ec k hk.2).trans (h.es k hk.1), fun k hk => (p2.ec k hk.2).trans (h.ea k hk.1), fun k hk => (p3.ec k hk.2).trans (h.eo k hk.1),
  fun x hx => ⟨h.ins x (p1.mc x hx), p1.lc x hx⟩, fun x hx => ⟨h.ina x (p2.mc x hx), p2.lc x hx⟩, fun x hx => ⟨h.ino x (p3.mc x hx), p3.lc x hx⟩⟩⟩
theorem said_up {m l : List (ByteArray × α)} {asked ks : List ByteArray} {s a s' a' : Tr α} {k : ByteArray} (hl : lk z m k = lk z l k) (ha : k ∈ asked ↔ k ∈ ks) (hd : Dj s a → Dj s' a')
 (h : (k ∈ ks ∧ lk z l k = nrm z (R k)) ∨ (k ∉ ks ∧ (((A0 k = O0 k ∨ B0 k = O0 k) ∧ lk z l k = A0 k) ∨ (B0 k = A0 k ∧ lk z l k = O0 k ∧ (Dj s' a' → (B0 k).2 = false))))) :
 (k ∈ asked ∧ lk z m k = nrm z (R k)) ∨ (k ∉ asked ∧ (((A0 k = O0 k ∨ B0 k = O0 k) ∧ lk z m k = A0 k) ∨ (B0 k = A0 k ∧ lk z m k = O0 k ∧ (Dj s a → (B0 k).2 = false)))) := by
 rw [hl, ha]
 rcases h with h | ⟨h1, h | ⟨h2, h3, h4⟩⟩
 · exact .inl h
 · exact .inr ⟨h1, .inl h⟩
 · exact .inr ⟨h1, .inr ⟨h2, h3, fun h => h4 (hd h)⟩⟩
theorem WlkO.step {key : ByteArray} {sl sx sr al ax ar ol ox or' l r m : Tr α} {as1 as2 : List ByteArray} {N1 N2 N3 : Nat} (h : WlkI z B0 A0 O0 C s a o) (hk : C key)
 (hx : 1 ≤ (here ax).length + (here ox).length)
 (h1 : SplitR N1 key s sl sx sr) (h2 : SplitR N2 key a al ax ar) (h3 : SplitR N3 key o ol ox or') (hd : Dj s a → Dj sl al ∧ Dj sr ar)
 (o1 : WlkO z R B0 A0 O0 (fun k => C k ∧ klt k key = true) sl al ol l as1) (o2 : WlkO z R B0 A0 O0 (fun k => C k ∧ klt key k = true) sr ar or' r as2)
 (hm : items m = items l ++ ((if (R key).2 = true then [(key, (R key).1)] else []) ++ items r)) (hb : Bal m) : WlkO z R B0 A0 O0 C s a o m (as1 ++ as2 ++ [key]) := by
 have p2 := h2.parts z h.sa
 have p3 := h3.parts z h.so
 have l1 : ∀ k ∈ as1, klt k key = true := fun k hk => (o1.sub k hk).1.2
 have l2 : ∀ k ∈ as2, klt key k = true := fun k hk => (o2.sub k hk).1.2
 have hmid : ∀ y ∈ (if (R key).2 = true then [(key, (R key).1)] else [] : List (ByteArray × α)), y.1 = key := by
  intro y hy
  split at hy
  · rw [List.mem_singleton.1 hy]
  · cases hy
 have hml : (if (R key).2 = true then [(key, (R key).1)] else [] : List (ByteArray × α)).length ≤ 1 := by split <;> simp
 generalize hq : (if (R key).2 = true then [(key, (R key).1)] else [] : List (ByteArray × α)) = mid at *
 refine ⟨?_, hb, ?_, ?_, ?_, ?_, ?_, ?_⟩
 · rw [hm]
   refine srt_append.2 ⟨o1.srt, srt_append.2 ⟨?_, o2.srt, fun x hx y hy => ?_⟩, fun x hx y hy => ?_⟩
   · rw [← hq]; split <;> simp [Srt]
   · rw [hmid x hx]; exact (o2.inC y hy).2
   · rcases List.mem_append.1 hy with hy | hy
     · rw [hmid y hy]; exact (o1.inC x hx).2
     · exact klt_trans (o1.inC x hx).2 (o2.inC y hy).2
 · intro x hx
   rw [hm] at hx
   rcases List.mem_append.1 hx with hx | hx
   · exact (o1.inC x hx).1
   · rcases List.mem_append.1 hx with hx | hx
     · rw [hmid x hx]; exact hk
     · exact (o2.inC x hx).1
 · rw [List.nodup_append, List.nodup_append]
   refine ⟨⟨o1.nd, o2.nd, fun x hx y hy e => ?_⟩, by simp, fun x hx y hy e => ?_⟩
   · subst e; have := klt_trans (l1 x hx) (l2 x hy); rw [klt_irrefl] at this; cases this
   · rw [List.mem_singleton.1 hy] at e
     subst e
     rcases List.mem_append.1 hx with hx | hx
     · have := l1 x hx; rw [klt_irrefl] at this; cases this
     · have := l2 x hx; rw [klt_irrefl] at this; cases this
 · intro k hk'
   rcases List.mem_append.1 hk' with hk' | hk'
   · rcases List.mem_append.1 hk' with hk' | hk'
     · exact ⟨(o1.sub k hk').1.1, (o1.sub k hk').2⟩
     · exact ⟨(o2.sub k hk').1.1, (o2.sub k hk').2⟩
   · rw [List.mem_singleton.1 hk']
     refine ⟨hk, ?_⟩
     have e2 : lk z (here ax) key = A0 key := by rw [← p2.ex]; exact h.ea key hk
     have e3 : lk z (here ox) key = O0 key := by rw [← p3.ex]; exact h.eo key hk
     rcases split_mid h2 with e | ⟨v, e⟩
     · rcases split_mid h3 with e' | ⟨v, e'⟩
       · rw [e, e'] at hx; simp at hx
       · right; rw [← e3, e']; simp [lk]
     · left; rw [← e2, e]; simp [lk]
 · have := o1.len; have := o2.len; have := p2.sz; have := p3.sz
   simp only [List.length_append, List.length_cons, List.length_nil]
   omega
 · have e1 : sz m = sz l + mid.length + sz r := by rw [← sz_items, hm, ← sz_items l, ← sz_items r]; simp; omega
   have := o1.siz; have := o2.siz; have := p2.sz; have := p3.sz
   omega
 · intro k hC
   by_cases hlt : klt k key = true
   · refine said_up (l := items l) (ks := as1) ?_ ?_ (fun h => (hd h).1) (o1.ans k ⟨hC, hlt⟩)
     · rw [hm, lk_left]
       intro y hy
       rcases List.mem_append.1 hy with hy | hy
       · rw [hmid y hy]; exact Ne.symm (klt_ne hlt)
       · exact Ne.symm (klt_ne (klt_trans hlt (o2.inC y hy).2))
     · simp only [List.mem_append, List.mem_singleton]
       constructor
       · rintro ((h | h) | h)
         · exact h
         · have := klt_trans hlt (l2 k h); rw [klt_irrefl] at this; cases this
         · exact absurd h (klt_ne hlt)
       · intro h; exact .inl (.inl h)
   · by_cases hgt : klt key k = true
     · refine said_up (l := items r) (ks := as2) ?_ ?_ (fun h => (hd h).2) (o2.ans k ⟨hC, hgt⟩)
       · rw [hm, lk_right (fun y hy => klt_ne (klt_trans (o1.inC y hy).2 hgt)), lk_right]
         intro y hy; rw [hmid y hy]; exact klt_ne hgt
       · simp only [List.mem_append, List.mem_singleton]
         constructor
         · rintro ((h | h) | h)
           · have := klt_trans (l1 k h) hgt; rw [klt_irrefl] at this; cases this
           · exact h
           · exact absurd h.symm (klt_ne hgt)
         · intro h; exact .inl (.inr h)
     · have e := klt_tri (by simpa using hlt) (by simpa using hgt)
       subst e
       refine .inl ⟨by simp, ?_⟩
       rw [hm, lk_right (fun y hy => klt_ne (o1.inC y hy).2), lk_left (fun y hy => Ne.symm (klt_ne (o2.inC y hy).2)), ← hq]
       unfold nrm
       split
       · simp [lk]; exact Prod.ext rfl (by simpa using (‹(R k).2 = true›).symm)
       · rfl
theorem WlkO.all {m : Tr α} {asked : List ByteArray} (h : WlkO z R B0 A0 O0 C s a o m asked) (k : ByteArray) (hk : C k) (h1 : A0 k = O0 k ∨ B0 k = O0 k → nrm z (R k) = A0 k) (h2 : B0 k = A0 k → nrm z (R k) = O0 k ∨ (Dj s a ∧ (B0 k).2 = true)) : lk z (items m) k = nrm z (R k) := by
 rcases h.ans k hk with ⟨_, h⟩ | ⟨_, ⟨h3, h4⟩ | ⟨h3, h4, h5⟩⟩
 · exact h
 · rw [h4, h1 h3]
 · rcases h2 h3 with h6 | ⟨h6, h7⟩
   · rw [h4, h6]
   · rw [h5 h6] at h7; cases h7
end
end Pm
end Go.Proofs.YtkjchoamdibolaaDoor
namespace Go.Proofs.YtkjchoamdibolaaDoor
namespace St
open Pm
theorem numC_neg (a b : Int) : numC b a = - numC a b := by
 unfold numC
 split <;> split <;> first | omega | (split <;> omega) | skip
theorem txtC_neg (a b : ByteArray) : txtC b a = - txtC a b := by
 unfold txtC
 cases h : klt a b with
 | true => rw [klt_asymm h]; simp
 | false => cases h' : klt b a <;> simp
theorem firstC_neg (a b : Int) : firstC (-a) (-b) = - firstC a b := by
 unfold firstC
 by_cases h : a = 0
 · rw [if_pos (by omega), if_pos h]
 · rw [if_neg (by omega), if_neg h]
section
variable {A B a b : List El} {x y : El}
end
end St
end Go.Proofs.YtkjchoamdibolaaDoor
namespace Go.Proofs.YtkjchoamdibolaaDoor
namespace Ku
open St Pm
structure Ord3 {α : Type} (c : α → α → Int) : Prop where
 neg : ∀ x y, c y x = - c x y
 rng : ∀ x y, c x y = -1 ∨ c x y = 0 ∨ c x y = 1
 trans : ∀ x y z, c x y ≤ 0 → c y z ≤ 0 → c x z ≤ 0
theorem Ord3.self {α : Type} {c : α → α → Int} (h : Ord3 c) (x : α) : c x x = 0 := by have := h.neg x x; omega
theorem Ord3.zero {α : Type} {c : α → α → Int} (h : Ord3 c) {x y z : α} (hxy : c x y ≤ 0) (hyz : c y z ≤ 0) (h0 : c x z = 0) : c x y = 0 ∧ c y z = 0 := by
 have a := h.neg x z
 have h1 := h.trans y z x hyz (by omega)
 have h2 := h.trans z x y (by omega) hxy
 have b := h.neg x y
 have d := h.neg y z
 constructor <;> omega
theorem first_le {a b : Int} (h : firstC a b ≤ 0) : a ≤ 0 := by
 unfold firstC at h
 split at h <;> omega
theorem first_z {a b : Int} (h : a = 0) : firstC a b = b := by unfold firstC; rw [if_pos h]
theorem lexO {α β γ : Type} {c : α → α → Int} {d : β → β → Int} (f : γ → α) (g : γ → β) (hc : Ord3 c) (hd : Ord3 d) : Ord3 (fun x y : γ => firstC (c (f x) (f y)) (d (g x) (g y))) where
 neg x y := by
  show firstC (c (f y) (f x)) (d (g y) (g x)) = _
  rw [hc.neg, hd.neg (g x), firstC_neg]
 rng x y := by
  show firstC _ _ = _ ∨ firstC _ _ = _ ∨ firstC _ _ = _
  unfold firstC
  split
  · exact hd.rng _ _
  · exact hc.rng _ _
 trans x y z hxy hyz := by
  have h1 := first_le hxy
  have h2 := first_le hyz
  have h3 := hc.trans _ _ _ h1 h2
  show firstC (c (f x) (f z)) (d (g x) (g z)) ≤ 0
  by_cases h0 : c (f x) (f z) = 0
  · obtain ⟨e1, e2⟩ := hc.zero h1 h2 h0
    rw [first_z e1] at hxy
    rw [first_z e2] at hyz
    rw [first_z h0]
    exact hd.trans _ _ _ hxy hyz
  · unfold firstC
    rw [if_neg h0]
    exact h3
theorem numO : Ord3 numC where
 neg := numC_neg
 rng x y := by unfold numC; split; exact .inl rfl; split; exact .inr (.inr rfl); exact .inr (.inl rfl)
 trans x y z h k := by
  unfold numC at *
  split at h <;> split at k <;> split <;> (try split) <;> (try split at h) <;> (try split at k) <;> omega
theorem txt_le {a b : ByteArray} : txtC a b ≤ 0 ↔ klt b a = false := by
 unfold txtC
 cases h : klt a b with
 | true => rw [klt_asymm h]; simp
 | false => cases h' : klt b a <;> simp
theorem txtO : Ord3 txtC where
 neg := txtC_neg
 rng x y := by unfold txtC; split; exact .inl rfl; split; exact .inr (.inr rfl); exact .inr (.inl rfl)
 trans x y z h k := by
  rw [txt_le] at *
  cases hz : klt z x with
  | false => rfl
  | true =>
   cases hy : klt y z with
   | true => rw [klt_trans hy hz] at h; cases h
   | false =>
    have := klt_tri hy k
    subst this
    rw [hz] at h
    cases h
theorem txt_zero {a b : ByteArray} (h : txtC a b = 0) : a = b := by
 have h1 := txt_le.1 (Int.le_of_eq h)
 have h2 := txtO.neg a b
 have h3 := txt_le.1 (show txtC b a ≤ 0 by omega)
 exact klt_tri h3 h1
theorem path_neg : ∀ l m : List ByteArray, pathC m l = - pathC l m
 | [], [] => rfl
 | [], _ :: _ => rfl
 | _ :: _, [] => rfl
 | x :: l, y :: m => by
  unfold pathC
  have := txtC_neg x y
  by_cases h : txtC x y = 0
  · rw [if_pos h, if_pos (by omega)]; exact path_neg l m
  · rw [if_neg h, if_neg (by omega)]; exact this
theorem path_rng : ∀ l m : List ByteArray, pathC l m = -1 ∨ pathC l m = 0 ∨ pathC l m = 1
 | [], [] => .inr (.inl rfl)
 | [], _ :: _ => .inl rfl
 | _ :: _, [] => .inr (.inr rfl)
 | x :: l, y :: m => by
  unfold pathC
  split
  · exact path_rng l m
  · exact txtO.rng x y
theorem path_trans : ∀ l m n : List ByteArray, pathC l m ≤ 0 → pathC m n ≤ 0 → pathC l n ≤ 0
 | [], _, [], _, _ => by decide
 | [], _, _ :: _, _, _ => by show (-1 : Int) ≤ 0; omega
 | _ :: _, [], _, h, _ => by have : (1 : Int) ≤ 0 := h; omega
 | _ :: _, _ :: _, [], _, k => by have : (1 : Int) ≤ 0 := k; omega
 | x :: l, y :: m, z :: n, h, k => by
  unfold pathC at h k ⊢
  have hx : txtC x y ≤ 0 := by split at h <;> omega
  have hy : txtC y z ≤ 0 := by split at k <;> omega
  have hz := txtO.trans x y z hx hy
  by_cases h0 : txtC x z = 0
  · obtain ⟨e1, e2⟩ := txtO.zero hx hy h0
    rw [if_pos e1] at h
    rw [if_pos e2] at k
    rw [if_pos h0]
    exact path_trans l m n h k
  · rw [if_neg h0]; exact hz
theorem pathO : Ord3 pathC := ⟨fun l m => path_neg l m, path_rng, path_trans⟩
theorem path_zero : ∀ {l m : List ByteArray}, pathC l m = 0 → l = m
 | [], [], _ => rfl
 | [], _ :: _, h => by have : (-1 : Int) = 0 := h; omega
 | _ :: _, [], h => by have : (1 : Int) = 0 := h; omega
 | x :: l, y :: m, h => by
  unfold pathC at h
  by_cases h0 : txtC x y = 0
  · rw [if_pos h0] at h
    rw [txt_zero h0, path_zero h]
  · rw [if_neg h0] at h; exact absurd h h0
theorem plO : Ord3 plC := lexO (γ := Plc) (c := fun p q : Plc => firstC (pathC p.l q.l) (numC p.k q.k)) id (fun p => p.x) (lexO (fun p : Plc => p.l) (fun p : Plc => p.k) pathO numO) txtO
theorem path_more (k : ByteArray) : ∀ l : List ByteArray, pathC l (l ++ [k]) = -1
 | [] => rfl
 | x :: l => by
  show (if txtC x x = 0 then pathC l (l ++ [k]) else txtC x x) = -1
  rw [if_pos (txtO.self x), path_more k l]
theorem pl_more {p q : Plc} {k : ByteArray} (h : q.l = p.l ++ [k]) : plC p q = -1 := by
 unfold plC
 rw [h, path_more]
 rfl
theorem cut_at (a r : List UInt8) (h : ∀ b ∈ a, b ≠ 47) : Lib.cut (a ++ 47 :: r) [47] = (a, r, true) := by
 have hi : Lib.index (a ++ 47 :: r) [47] = (a.length : Int) := by
  rw [Lib.index_one]
  induction a with
  | nil => rfl
  | cons b a ih =>
   have hb := h b List.mem_cons_self
   have := ih fun x hx => h x (List.mem_cons_of_mem _ hx)
   show (if (b == 47) = true then (0 : Int) else if (Lib.indexByte (a ++ 47 :: r) 47 == -1) = true then -1 else Lib.indexByte (a ++ 47 :: r) 47 + 1) = _
   rw [if_neg (by simpa using hb), this, if_neg (by simp)]
   simp
 unfold Lib.cut
 rw [hi, if_pos (by omega)]
 simp
theorem cut_not (a : List UInt8) (h : ∀ b ∈ a, b ≠ 47) : Lib.cut a [47] = (a, [], false) := by
 have hi : Lib.index a [47] = -1 := by
  rw [Lib.index_one]
  induction a with
  | nil => rfl
  | cons b a ih =>
   have hb := h b List.mem_cons_self
   have := ih fun x hx => h x (List.mem_cons_of_mem _ hx)
   show (if (b == 47) = true then (0 : Int) else if (Lib.indexByte a 47 == -1) = true then -1 else Lib.indexByte a 47 + 1) = _
   rw [if_neg (by simpa using hb), this, if_pos (by decide)]
 unfold Lib.cut
 rw [hi, if_neg (by omega)]
theorem spl_jn : ∀ (f : Nat) (k : ByteArray) (l : List ByteArray), l.length < f → (∀ x ∈ k :: l, ∀ b ∈ x.data.toList, b ≠ 47) → spl f (k.data.toList ++ jn l) = (k :: l).map (·.data.toList)
 | 0, _, _, h, _ => absurd h (Nat.not_lt_zero _)
 | f + 1, k, [], _, h => by
  unfold spl
  rw [show k.data.toList ++ jn [] = k.data.toList by simp [jn], cut_not _ (h k List.mem_cons_self)]
  rfl
 | f + 1, k, x :: l, hl, h => by
  unfold spl
  rw [show k.data.toList ++ jn (x :: l) = k.data.toList ++ 47 :: (x.data.toList ++ jn l) by simp [jn], cut_at _ _ (h k List.mem_cons_self)]
  rw [if_pos rfl, spl_jn f x l (by simp at hl; omega) fun y hy => h y (List.mem_cons_of_mem _ hy)]
  rfl
theorem key_bytes {k : ByteArray} (h : keyG k = true) : 1 ≤ k.size ∧ k.size ≤ 64 ∧ ∀ b ∈ k.data.toList, b ≠ 47 := by
 unfold keyG at h
 simp only [Bool.and_eq_true, decide_eq_true_eq] at h
 refine ⟨h.1, h.2.1, fun b hb e => ?_⟩
 have h2 := h.2.2.2
 unfold allG at h2
 have h3 := List.all_eq_true.1 h2 b hb
 subst e
 exact absurd h3 (by decide)
theorem mkB_data (k : ByteArray) : mkB k.data.toList = k := by
 unfold mkB
 simp
theorem split_join {l : List ByteArray} (h : pathG l = true) : splitG (joinB l) = some l := by
 have h0 := h
 unfold pathG at h
 simp only [Bool.and_eq_true, decide_eq_true_eq, List.all_eq_true] at h
 obtain ⟨h6, hk⟩ := h
 cases l with
 | nil => rfl
 | cons k l =>
  have e1 : joinB (k :: l) = ⟨(47 :: (k.data.toList ++ jn l)).toArray⟩ := by
   unfold joinB
   rw [if_neg (by simp)]
   simp [jn]
  have hk1 := key_bytes (hk k List.mem_cons_self)
  unfold splitG
  rw [e1]
  have hne : ¬ (⟨(47 :: (k.data.toList ++ jn l)).toArray⟩ : ByteArray) = ⟨#[47]⟩ := by
   intro e
   have h2 : (47 :: (k.data.toList ++ jn l)) = [47] := congrArg (fun b : ByteArray => b.data.toList) e
   have h3 := congrArg List.length h2
   simp only [List.length_cons, List.length_append, List.length_nil] at h3
   have h1 := hk1.1
   have h4 : k.data.toList.length = k.size := by simp
   omega
  rw [if_neg hne]
  have hp : Lib.hasPrefix (⟨(47 :: (k.data.toList ++ jn l)).toArray⟩ : ByteArray).data.toList [47] = true := by
   simp [Lib.hasPrefix]
  rw [if_pos hp]
  have hs : (spl 7 ((⟨(47 :: (k.data.toList ++ jn l)).toArray⟩ : ByteArray).data.toList.drop 1)).map mkB = k :: l := by
   show (spl 7 (k.data.toList ++ jn l)).map mkB = k :: l
   rw [spl_jn 7 k l (by simp at h6; omega) fun x hx => (key_bytes (hk x hx)).2.2, List.map_map]
   rw [show (mkB ∘ fun x : ByteArray => x.data.toList) = id from funext mkB_data, List.map_id]
  rw [hs, if_pos h0]
theorem jn_size : ∀ (l : List ByteArray), (∀ x ∈ l, x.size ≤ 64) → (jn l).length ≤ 65 * l.length
 | [], _ => Nat.le_refl _
 | x :: l, h => by
  have := jn_size l fun y hy => h y (List.mem_cons_of_mem _ hy)
  have h1 := h x List.mem_cons_self
  show ((47 :: x.data.toList) ++ jn l).length ≤ _
  simp only [List.length_append, List.length_cons]
  have h2 : x.data.toList.length = x.size := by simp
  omega
theorem join_size {l : List ByteArray} (h : pathG l = true) : (joinB l).size ≤ 400 := by
 unfold pathG at h
 simp only [Bool.and_eq_true, decide_eq_true_eq, List.all_eq_true] at h
 unfold joinB
 split
 · decide
 · have := jn_size l fun x hx => (key_bytes (h.2 x hx)).2.1
   have e : (⟨(jn l).toArray⟩ : ByteArray).size = (jn l).length := by simp [ByteArray.size]
   rw [e]
   omega
theorem join_inj {l m : List ByteArray} (hl : pathG l = true) (hm : pathG m = true) (h : joinB l = joinB m) : l = m := by
 have h1 := split_join hl
 rw [h, split_join hm] at h1
 exact (Option.some.inj h1).symm
end Ku
end Go.Proofs.YtkjchoamdibolaaDoor
