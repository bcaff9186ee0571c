
/- Walks: Changes (plain; the closure that calls itself, and yield; the promise); Union. -/
import Derived.Test.YtdodkhhlbjamhaaWkEI
import Derived.Test.YtdodkhhlbjamhaaPmKI
import Derived.Test.YtdodkhhlbjamhaaMarks
namespace Go.Proofs.Ytdodkhhlbjamhaa
namespace Pm
/-- What is handed over. -/
abbrev Chg1 (α : Type) := ByteArray × (α × Bool) × (α × Bool)
def insK (k : ByteArray) : List ByteArray → List ByteArray
  | [] => [k]
  | x :: l => if klt k x = true then k :: x :: l else if klt x k = true then x :: insK k l else x :: l
theorem insK_mem (k y : ByteArray) : ∀ l : List ByteArray, y ∈ insK k l ↔ y = k ∨ y ∈ l
  | [] => by simp [insK]
  | x :: l => by
    unfold insK
    by_cases h1 : klt k x = true
    · rw [if_pos h1]; simp
    · rw [if_neg h1]
      by_cases h2 : klt x k = true
      · rw [if_pos h2, List.mem_cons, insK_mem k y l, List.mem_cons]
        constructor
        · rintro (h | h | h)
          · exact .inr (.inl h)
          · exact .inl h
          · exact .inr (.inr h)
        · rintro (h | h | h)
          · exact .inr (.inl h)
          · exact .inl h
          · exact .inr (.inr h)
      · rw [if_neg h2]
        have e := klt_tri (by simpa using h1) (by simpa using h2)
        subst e
        simp
theorem insK_srt (k : ByteArray) : ∀ l : List ByteArray, l.Pairwise (fun x y => klt x y = true) → (insK k l).Pairwise (fun x y => klt x y = true)
  | [], _ => by simp [insK]
  | x :: l, h => by
    obtain ⟨h1, h2⟩ := List.pairwise_cons.1 h
    unfold insK
    by_cases a1 : klt k x = true
    · rw [if_pos a1]
      refine List.pairwise_cons.2 ⟨fun y hy => ?_, h⟩
      rcases List.mem_cons.1 hy with rfl | hy
      · exact a1
      · exact klt_trans a1 (h1 y hy)
    · rw [if_neg a1]
      by_cases a2 : klt x k = true
      · rw [if_pos a2]
        refine List.pairwise_cons.2 ⟨fun y hy => ?_, insK_srt k l h2⟩
        rcases (insK_mem k y l).1 hy with rfl | hy
        · exact a2
        · exact h1 y hy
      · rw [if_neg a2]; exact h
theorem keys_srt (l : List ByteArray) : ∃ s : List ByteArray, s.Pairwise (fun x y => klt x y = true) ∧ ∀ k, k ∈ s ↔ k ∈ l := by
  induction l with
  | nil => exact ⟨[], List.Pairwise.nil, fun k => Iff.rfl⟩
  | cons x l ih =>
    obtain ⟨s, h1, h2⟩ := ih
    exact ⟨insK x s, insK_srt x s h1, fun k => by rw [insK_mem, h2, List.mem_cons]⟩
variable {α : Type} {z : α}
structure Chg (z : α) (a b : List (ByteArray × α)) (L : List (Chg1 α)) : Prop where
  srt : L.Pairwise (fun x y => klt x.1 y.1 = true)
  mem : ∀ x : Chg1 α, x ∈ L ↔ (x.2.1 = lk z a x.1 ∧ x.2.2 = lk z b x.1 ∧ x.2.1.2 ≠ x.2.2.2)
theorem chg_uniq0 : ∀ (L L' : List (Chg1 α)), L.Pairwise (fun x y => klt x.1 y.1 = true) → L'.Pairwise (fun x y => klt x.1 y.1 = true) → (∀ x, x ∈ L ↔ x ∈ L') → L = L'
  | [], [], _, _, _ => rfl
  | [], y :: L', _, _, h => by have := (h y).2 List.mem_cons_self; cases this
  | x :: L, [], _, _, h => by have := (h x).1 List.mem_cons_self; cases this
  | x :: L, y :: L', h1, h2, h => by
    obtain ⟨a1, a2⟩ := List.pairwise_cons.1 h1
    obtain ⟨b1, b2⟩ := List.pairwise_cons.1 h2
    have e : x = y := by
      rcases List.mem_cons.1 ((h x).1 List.mem_cons_self) with e | hx
      · exact e
      · rcases List.mem_cons.1 ((h y).2 List.mem_cons_self) with e | hy
        · exact e.symm
        · have := klt_trans (b1 x hx) (a1 y hy)
          rw [klt_irrefl] at this; cases this
    subst e
    congr 1
    refine chg_uniq0 L L' a2 b2 fun u => ⟨fun hu => ?_, fun hu => ?_⟩
    · rcases List.mem_cons.1 ((h u).1 (List.mem_cons_of_mem _ hu)) with rfl | h'
      · have := a1 u hu; rw [klt_irrefl] at this; cases this
      · exact h'
    · rcases List.mem_cons.1 ((h u).2 (List.mem_cons_of_mem _ hu)) with rfl | h'
      · have := b1 u hu; rw [klt_irrefl] at this; cases this
      · exact h'
theorem Chg.uniq {a b : List (ByteArray × α)} {L L' : List (Chg1 α)} (h : Chg z a b L) (h' : Chg z a b L') : L = L' :=
  chg_uniq0 L L' h.srt h'.srt fun x => (h.mem x).trans (h'.mem x).symm
theorem chg_ex (a b : List (ByteArray × α)) : ∃ L, Chg z a b L := by
  obtain ⟨s, h1, h2⟩ := keys_srt ((a.map (·.1)) ++ (b.map (·.1)))
  refine ⟨(s.filter fun k => decide ((lk z a k).2 ≠ (lk z b k).2)).map fun k => (k, lk z a k, lk z b k), ?_, fun x => ?_⟩
  · rw [List.pairwise_map]
    exact h1.filter _
  · simp only [List.mem_map, List.mem_filter, decide_eq_true_eq]
    constructor
    · rintro ⟨k, ⟨_, hk⟩, rfl⟩
      exact ⟨rfl, rfl, hk⟩
    · rintro ⟨e1, e2, hne⟩
      refine ⟨x.1, ⟨(h2 _).2 ?_, by rw [← e1, ← e2]; exact hne⟩, by rw [← e1, ← e2]⟩
      rw [List.mem_append, List.mem_map, List.mem_map]
      by_cases ha : (lk z a x.1).2 = true
      · exact .inl ((lk_has (z := z)).1 ha)
      · by_cases hb : (lk z b x.1).2 = true
        · exact .inr ((lk_has (z := z)).1 hb)
        · rw [e1, e2] at hne
          exact absurd (by rw [Bool.not_eq_true] at ha hb; rw [ha, hb]) hne
theorem Chg.same {a : List (ByteArray × α)} {L : List (Chg1 α)} (h : Chg z a a L) : L = [] := by
  rw [List.eq_nil_iff_forall_not_mem]
  intro x hx
  obtain ⟨h1, h2, h3⟩ := (h.mem x).1 hx
  exact h3 (by rw [h1, h2])
theorem Chg.has {a b : List (ByteArray × α)} {L : List (Chg1 α)} (h : Chg z a b L) {x : Chg1 α} (hx : x ∈ L) : (∃ y ∈ a, y.1 = x.1) ∨ (∃ y ∈ b, y.1 = x.1) := by
  obtain ⟨h1, h2, h3⟩ := (h.mem x).1 hx
  by_cases ha : (lk z a x.1).2 = true
  · exact .inl ((lk_has (z := z)).1 ha)
  · by_cases hb : (lk z b x.1).2 = true
    · exact .inr ((lk_has (z := z)).1 hb)
    · rw [h1, h2] at h3
      exact absurd (by rw [Bool.not_eq_true] at ha hb; rw [ha, hb]) h3
def midC (k : ByteArray) (p q : α × Bool) : List (Chg1 α) := if p.2 = q.2 then [] else [(k, p, q)]
theorem chg_split {key : ByteArray} {a b al ax ar bl bx br : Tr α} {L1 L2 : List (Chg1 α)} (pa : Parts z key a al ax ar) (pb : Parts z key b bl bx br)
    (h1 : Chg z (items al) (items bl) L1) (h2 : Chg z (items ar) (items br) L2) : Chg z (items a) (items b) (L1 ++ (midC key (lk z (items a) key) (lk z (items b) key) ++ L2)) := by
  have l1 : ∀ x ∈ L1, klt x.1 key = true := fun x hx => by
    rcases h1.has hx with ⟨y, hy, e⟩ | ⟨y, hy, e⟩
    · rw [← e]; exact pa.la y hy
    · rw [← e]; exact pb.la y hy
  have l2 : ∀ x ∈ L2, klt key x.1 = true := fun x hx => by
    rcases h2.has hx with ⟨y, hy, e⟩ | ⟨y, hy, e⟩
    · rw [← e]; exact pa.lc y hy
    · rw [← e]; exact pb.lc y hy
  have lm : ∀ x ∈ midC key (lk z (items a) key) (lk z (items b) key), x = (key, lk z (items a) key, lk z (items b) key) ∧ (lk z (items a) key).2 ≠ (lk z (items b) key).2 := fun x hx => by
    unfold midC at hx
    split at hx
    · cases hx
    · rename_i h; exact ⟨List.mem_singleton.1 hx, h⟩
  refine ⟨?_, fun x => ?_⟩
  · rw [List.pairwise_append, List.pairwise_append]
    refine ⟨h1.srt, ⟨?_, h2.srt, fun x hx y hy => ?_⟩, fun x hx y hy => ?_⟩
    · unfold midC; split <;> simp
    · rw [(lm x hx).1]; exact l2 y hy
    · rcases List.mem_append.1 hy with hy | hy
      · rw [(lm y hy).1]; exact l1 x hx
      · exact klt_trans (l1 x hx) (l2 y hy)
  · rw [List.mem_append, List.mem_append]
    constructor
    · rintro (hx | hx | hx)
      · obtain ⟨e1, e2, e3⟩ := (h1.mem x).1 hx
        rw [pa.ea _ (l1 x hx)] at e1
        rw [pb.ea _ (l1 x hx)] at e2
        exact ⟨e1, e2, e3⟩
      · obtain ⟨rfl, h⟩ := lm x hx
        exact ⟨rfl, rfl, h⟩
      · obtain ⟨e1, e2, e3⟩ := (h2.mem x).1 hx
        rw [pa.ec _ (l2 x hx)] at e1
        rw [pb.ec _ (l2 x hx)] at e2
        exact ⟨e1, e2, e3⟩
    · rintro ⟨e1, e2, e3⟩
      by_cases hlt : klt x.1 key = true
      · exact .inl ((h1.mem x).2 ⟨by rw [pa.ea _ hlt]; exact e1, by rw [pb.ea _ hlt]; exact e2, e3⟩)
      · by_cases hgt : klt key x.1 = true
        · exact .inr (.inr ((h2.mem x).2 ⟨by rw [pa.ec _ hgt]; exact e1, by rw [pb.ec _ hgt]; exact e2, e3⟩))
        · have e := klt_tri (by simpa using hlt) (by simpa using hgt)
          refine .inr (.inl ?_)
          obtain ⟨k, p, q⟩ := x
          dsimp only at e e1 e2 e3
          subst e e1 e2
          unfold midC
          rw [if_neg e3]
          exact List.mem_singleton.2 rfl
end Pm
open Go.RowKit Pm
attribute [local go_sem] Oper.semAt_some
def encCh (x : Chg1 Int) : Array Value := #[.string x.1, .agg #[.int .i64 x.2.1.1, .bool x.2.1.2, .int .i64 x.2.2.1, .bool x.2.2.2]]
/-- Where the closure runs. -/
structure EnvC (gb yb ll : Nat) (a b : Tr Int) (W : World) : Prop where
  g : Boxed W gb 82 (.func (.func 39) #[] #[.pointer (some ⟨gb, 0, none⟩), .pointer (some ⟨yb, 0, none⟩)])
  y : Boxed W yb 81 (.func (.yield ll) #[] #[])
  a : AtI W a
  b : AtI W b
theorem EnvC.below {gb yb ll : Nat} {a b : Tr Int} {W W' : World} (h : EnvC gb yb ll a b W) (hb : Below W.heap.size W W') : EnvC gb yb ll a b W' :=
  ⟨boxStays h.g hb, boxStays h.y hb, h.a.below hb rfl, h.b.below hb rfl⟩
/-- What is not written meanwhile. -/
structure ExC (Ex : TypeId → Prop) : Prop where
  g : ¬ Ex 82
  y : ¬ Ex 81
  m : ¬ Ex 29
  n : ¬ Ex 77
/-- A tree's nodes are kept. -/
def InC (M : Nat) (S : Nat → Prop) (t : Tr Int) : Prop := ∀ b ∈ blocks t, S b ∨ M ≤ b
theorem AtI.keepC {M : Nat} {S : Nat → Prop} {Ex : TypeId → Prop} {W W' : World} {t : Tr Int} (h : AtI W t) (hi : InC M S t) (hx : ExC Ex) (hk : KeepE M S Ex W W') : AtI W' t := by
  refine h.keep fun b o ho hm => ?_
  rcases hi b hm with hs | hs
  · exact (hk.block b hs).trans ho
  · refine hk.rest b o hs ho fun c t' fr e hh => ?_
    subst e
    by_cases ht : t' = 77
    · exact hx.n (ht ▸ hh)
    · exact h.other ho ht hm
theorem InC.split {M N : Nat} {S : Nat → Prop} {k : ByteArray} {t a x c : Tr Int} (h : InC M S t) (hs : SplitR N k t a x c) (hN : M ≤ N) : InC M S a ∧ InC M S c := by
  obtain ⟨h1, h2⟩ := split_blocks hs
  exact ⟨fun b hb => (h1 b hb).elim (fun h' => .inr (Nat.le_trans hN h')) (h b), fun b hb => (h2 b hb).elim (fun h' => .inr (Nat.le_trans hN h')) (h b)⟩
/-- In a call of it. -/
structure GoC (z gb yb ll : Nat) (a b : Tr Int) (J : List (Chg1 Int) → World → Prop) (pre : List (Chg1 Int)) (W : World) : Prop where
  x0 : Boxed W z 29 (.pointer (pa a))
  x1 : Boxed W (z + 1) 29 (.pointer (pa b))
  e : EnvC gb yb ll a b W
  j : J pre W
theorem GoC.below {z gb yb ll B : Nat} {a b : Tr Int} {J : List (Chg1 Int) → World → Prop} {pre : List (Chg1 Int)} {W W' : World} (h : GoC z gb yb ll a b J pre W) (hJ : OwnFrom B J) (hb : Below W.heap.size W W') : GoC z gb yb ll a b J pre W' :=
  ⟨boxStays h.x0 hb, boxStays h.x1 hb, h.e.below hb, ownFrom_to hJ h.j hb⟩
/-- Behind the splitting. -/
structure PcC (c1 c2 gb yb ll : Nat) (al ar bl br : Tr Int) (W : World) : Prop where
  y1 : Boxed W c1 29 (.pointer (pa al))
  y2 : Boxed W (c1 + 1) 29 (.pointer (pa ar))
  y3 : Boxed W c2 29 (.pointer (pa bl))
  y4 : Boxed W (c2 + 1) 29 (.pointer (pa br))
  el : EnvC gb yb ll al bl W
  ar : AtI W ar
  br : AtI W br
theorem PcC.keep {M c1 c2 gb yb ll : Nat} {S : Nat → Prop} {Ex : TypeId → Prop} {al ar bl br : Tr Int} {W W' : World} (h : PcC c1 c2 gb yb ll al ar bl br W) (hx : ExC Ex) (hk : KeepE M S Ex W W')
    (h1 : M ≤ c1) (h2 : M ≤ c2) (h3 : M ≤ gb) (h4 : M ≤ yb) (i1 : InC M S al) (i2 : InC M S ar) (i3 : InC M S bl) (i4 : InC M S br) : PcC c1 c2 gb yb ll al ar bl br W' :=
  ⟨hk.box h.y1 h1 hx.m, hk.box h.y2 (by omega) hx.m, hk.box h.y3 h2 hx.m, hk.box h.y4 (by omega) hx.m, ⟨hk.box h.el.g h3 hx.g, hk.box h.el.y h4 hx.y, h.el.a.keepC i1 hx hk, h.el.b.keepC i3 hx hk⟩, h.ar.keepC i2 hx hk, h.br.keepC i4 hx hk⟩
set_option maxRecDepth 100000 in
set_option maxHeartbeats 4000000 in
theorem go1_chg (gb yb ll M : Nat) (S : Nat → Prop) (Ex : TypeId → Prop) (L : List (Chg1 Int)) (J Jx : List (Chg1 Int) → World → Prop) (B0 : Nat)
    (hJo : OwnFrom B0 J) (h2 : M ≤ gb) (h3 : M ≤ yb) (hX : ExC Ex)
    (hY : ∀ pre x W1, J pre W1 → pre ++ [x] <+: L → YieldAt Fence.wide 0 Try.prog ll (encCh x) W1 fun e W' =>
      (e = .returned (.bool true) ∧ J (pre ++ [x]) W' ∧ KeepE M S Ex W1 W') ∨ (e = .returned (.bool false) ∧ Jx (pre ++ [x]) W' ∧ KeepE M S Ex W1 W')) :
    ∀ (n : Nat) (a b : Tr Int) (pre La : List (Chg1 Int)) (W1 : World), sz a + sz b < n → sz a + sz b ≤ 1073741824 → Bal a → Bal b → Srt (items a) → Srt (items b) → InC M S a → InC M S b → M ≤ W1.heap.size → (∀ k, S k → k < W1.heap.size) →
      J pre W1 → EnvC gb yb ll a b W1 → Chg 0 (items a) (items b) La → pre ++ La <+: L →
      Calls Try.prog 39 #[.agg #[.pointer (pa a)], .agg #[.pointer (pa b)], .pointer (some ⟨gb, 0, none⟩), .pointer (some ⟨yb, 0, none⟩)] W1 fun e W' =>
        (e = .returned (.bool true) ∧ J (pre ++ La) W' ∧ KeepE M S Ex W1 W') ∨ (e = .returned (.bool false) ∧ (∃ pre', pre' <+: L ∧ Jx pre' W') ∧ KeepE M S Ex W1 W') := by
  have HY := Lib.hid hY
  clear hY
  intro n
  induction n with
  | zero => intro a b pre La W1 h; omega
  | succ n ih =>
  intro a b pre La W1 hn hz ba bb sa sb ia ib hM hSN hJ hE hC hL
  have IH := Lib.hid ih
  have TT := Lib.hid (And.intro ba (And.intro bb (And.intro sa sb)))
  have II := Lib.hid (And.intro ia ib)
  have HSN := Lib.hid hSN
  have HC := Lib.hid hC
  have HL := Lib.hid hL
  have HX := Lib.hid hX
  have HJO := Lib.hid hJo
  clear ih ba bb sa sb ia ib hSN hC hL hX hJo
  obtain ⟨z, hz0⟩ : ∃ z, W1.heap.size = z := ⟨_, rfl⟩
  obtain ⟨w1, hw1, hzz, x0, x1, hb⟩ : ∃ w1, (W1.alloc (.cells #[.pointer (pa a)] 29)).alloc (.cells #[.pointer (pa b)] 29) = w1 ∧ W1.heap.size = z ∧ Boxed w1 z 29 (.pointer (pa a)) ∧ Boxed w1 (z + 1) 29 (.pointer (pa b)) ∧ Below W1.heap.size W1 w1 := by
    obtain ⟨w1, c, g1, g2, g3, g4, g5⟩ := boxes2 W1 29 (.pointer (pa a)) (.pointer (pa b))
    rw [hz0] at g2
    subst g2
    exact ⟨w1, g1, hz0, g3, g4, g5⟩
  clear hzz
  have F1 : Hid (GoC z gb yb ll a b J pre w1) := Lib.hid ⟨x0, x1, hE.below hb, ownFrom_to HJO.out hJ hb⟩
  have K1 : Hid (KeepE M S Ex W1 w1) := Lib.hid (KeepE.below hb HSN.out)
  have hMz : M ≤ z := by omega
  have hz1 : z ≤ w1.heap.size := by have := hb.size; omega
  have k0 := cell_of_one x0
  have k1 := cell_of_one x1
  have HW := Lib.hid hw1
  clear x0 x1 hE hJ hb hw1
  go_enter Try.func39, Try.ntmps39
  go_wp2_with fail
  try rw [HW.out]
  clear HW k0 k1
  refine (pm_MSameI a b w1 F1.out.e.a F1.out.e.b).mono ?_
  rintro e w2 ⟨rfl, hb⟩
  have F2 := Lib.hid (F1.out.below HJO.out hb)
  have K2 := Lib.hid (K1.out.trans (KeepE.below hb (fun k hk => Nat.lt_of_lt_of_le (HSN.out k hk) K1.out.size)))
  have hz2 : z ≤ w2.heap.size := by have := hb.size; omega
  clear F1 K1 hb hz1
  by_cases hab : pa a = pa b
  · rw [decide_eq_true hab]
    have e := F2.out.e.a.uniq F2.out.e.b hab
    have hn0 : La = [] := by have h := HC.out; rw [← e] at h; exact h.same
    subst hn0
    clear e hab
    go_wp2_with fail
    go_ret
    exact .inl ⟨rfl, by simpa using F2.out.j, K2.out⟩
  rw [decide_eq_false hab]
  have HAB := Lib.hid hab
  clear hab
  have k0 := cell_of_one F2.out.x0
  go_wp2_with fail
  refine (pm_MRootI a w2).mono ?_
  rintro e w3 ⟨rfl, hb⟩
  have F3 := Lib.hid (F2.out.below HJO.out hb)
  have K3 := Lib.hid (K2.out.trans (KeepE.below hb (fun k hk => Nat.lt_of_lt_of_le (HSN.out k hk) K2.out.size)))
  have hz3 : z ≤ w3.heap.size := by have := hb.size; omega
  clear F2 K2 hb hz2 k0
  go_wp2_with fail
  refine (pm_KeyI a w3 F3.out.e.a).mono ?_
  rintro e w4 ⟨rfl, rfl⟩
  have k0 := cell_of_one F3.out.x0
  go_wp2_with fail
  refine (pm_MLenI a w3 F3.out.e.a).mono ?_
  rintro e w4 ⟨rfl, hb⟩
  have F4 := Lib.hid (F3.out.below HJO.out hb)
  have K4 := Lib.hid (K3.out.trans (KeepE.below hb (fun k hk => Nat.lt_of_lt_of_le (HSN.out k hk) K3.out.size)))
  have hz4 : z ≤ w4.heap.size := by have := hb.size; omega
  clear F3 K3 hb hz3 k0
  go_upto_if 24 with (fail)
  go_cut [7, 52] (fun s7 s52 wx => ∃ key : ByteArray, s7 = .string key ∧ s52 = undef ∧ Hid (sz a ≠ 0 ∧ key = keyOr a ∨ sz a = 0 ∧ key = keyOr b) ∧ Hid (GoC z gb yb ll a b J pre wx) ∧ Hid (KeepE M S Ex W1 wx) ∧ z ≤ wx.heap.size)
  case first =>
    by_cases hsz : sz a = 0
    · have h0 : ((sz a : Nat) : Int) = 0 := by omega
      have k1 := cell_of_one F4.out.x1
      go_wp2_with fail
      refine (pm_MRootI b w4).mono ?_
      rintro e w5 ⟨rfl, hb⟩
      have F5 := Lib.hid (F4.out.below HJO.out hb)
      have K5 := Lib.hid (K4.out.trans (KeepE.below hb (fun k hk => Nat.lt_of_lt_of_le (HSN.out k hk) K4.out.size)))
      have hz5 : z ≤ w5.heap.size := by have := hb.size; omega
      clear F4 K4 hb k1
      go_wp2_with fail
      refine (pm_KeyI b w5 F5.out.e.b).mono ?_
      rintro e w6 ⟨rfl, rfl⟩
      go_wp2_with fail
      go_meet
      exact ⟨keyOr b, rfl, rfl, Lib.hid (.inr ⟨hsz, rfl⟩), F5, K5, hz5⟩
    · have h0 : ¬ ((sz a : Nat) : Int) = 0 := by omega
      go_wp2_with fail
      go_meet
      exact ⟨keyOr a, rfl, rfl, Lib.hid (.inl ⟨hsz, rfl⟩), F4, K4, hz4⟩
  case rest =>
    obtain ⟨key, rfl, rfl, HK, F8, K8, hz8⟩ := hcut
    clear F4 K4 hz4
    have k0 := cell_of_one F8.out.x0
    go_wp2_with fail
    refine (pm_MSplitI a key wc.heap.size wc (Nat.le_refl _) F8.out.e.a (by omega)).mono ?_
    rintro e w9 ⟨al, ax, ar, hsp, rfl, hal, har, hb⟩
    obtain ⟨⟨pv, ph⟩, hp⟩ : ∃ p, lk 0 (items a) key = p := ⟨_, rfl⟩
    obtain ⟨hv1, hv2⟩ := prt_splitI hsp TT.out.2.2.1 hp
    rw [hv1, hv2]
    dsimp only
    have HP := Lib.hid hp
    clear hv1 hv2 hp
    go_upto_region 7 with (fail)
    obtain ⟨w10, c1, hw, hc, y1, y2, hb10⟩ := boxes2 w9 29 (.pointer (pa al)) (.pointer (pa ar))
    rw [hw, hc]
    have hbb := hb.trans (hb10.mono hb.size)
    have F10 := Lib.hid (F8.out.below HJO.out hbb)
    have K10 := Lib.hid (K8.out.trans (KeepE.below hbb (fun k hk => Nat.lt_of_lt_of_le (HSN.out k hk) K8.out.size)))
    have hz10 : z ≤ w10.heap.size := by have := hbb.size; omega
    have hc1 : z ≤ c1 := by rw [← hc]; have := hb.size; omega
    have Y1 := Lib.hid y1
    have Y2 := Lib.hid y2
    have A1 := Lib.hid (hal.below hb10 rfl)
    have A2 := Lib.hid (har.below hb10 rfl)
    have SP1 := Lib.hid hsp
    have IA := Lib.hid (II.out.1.split hsp (Nat.le_trans hMz hz8))
    clear hw hc y1 y2 hb10 hb hbb hal har hsp F8 K8 k0 hz8
    have k1 := cell_of_one F10.out.x1
    go_wp2_with fail
    refine (pm_MSplitI b key w10.heap.size w10 (Nat.le_refl _) F10.out.e.b (by omega)).mono ?_
    rintro e w11 ⟨bl, bx, br, hsp, rfl, hal, har, hb⟩
    obtain ⟨⟨qv, qh⟩, hp⟩ : ∃ p, lk 0 (items b) key = p := ⟨_, rfl⟩
    obtain ⟨hv1, hv2⟩ := prt_splitI hsp TT.out.2.2.2 hp
    rw [hv1, hv2]
    dsimp only
    have HQ := Lib.hid hp
    clear hv1 hv2 hp
    go_upto_region 8 with (fail)
    obtain ⟨w12, c2, hw, hc, y1, y2, hb12⟩ := boxes2 w11 29 (.pointer (pa bl)) (.pointer (pa br))
    rw [hw, hc]
    have hbb := hb.trans (hb12.mono hb.size)
    have K12 := Lib.hid (K10.out.trans (KeepE.below hbb (fun k hk => Nat.lt_of_lt_of_le (HSN.out k hk) K10.out.size)))
    have hz12 : z ≤ w12.heap.size := by have := hbb.size; omega
    have hc2 : z ≤ c2 := by rw [← hc]; have := hb.size; omega
    have J12 : Hid (J pre w12) := Lib.hid (ownFrom_to HJO.out F10.out.j hbb)
    have P12 : Hid (PcC c1 c2 gb yb ll al ar bl br w12) := Lib.hid ⟨boxStays Y1.out hbb, boxStays Y2.out hbb, y1, y2, ⟨boxStays F10.out.e.g hbb, boxStays F10.out.e.y hbb, A1.out.below hbb rfl, hal.below hb12 rfl⟩, A2.out.below hbb rfl, har.below hb12 rfl⟩
    have SP2 := Lib.hid hsp
    have IB := Lib.hid (II.out.2.split hsp (Nat.le_trans hMz hz10))
    clear hw hc y1 y2 hb12 hb hbb hal har hsp F10 K10 k1 Y1 Y2 A1 A2 hz10
    have p1 := SP1.out.parts 0 TT.out.2.2.1
    have p2 := SP2.out.parts 0 TT.out.2.2.2
    obtain ⟨L1, hL1⟩ := chg_ex (z := (0 : Int)) (items al) (items bl)
    obtain ⟨L2, hL2⟩ := chg_ex (z := (0 : Int)) (items ar) (items br)
    have hLa : La = L1 ++ (midC key (pv, ph) (qv, qh) ++ L2) := by
      have h := chg_split p1 p2 hL1 hL2
      rw [HP.out, HQ.out] at h
      exact HC.out.uniq h
    have hsz : sz al + sz bl < n ∧ sz ar + sz br < n := by
      have e1 := p1.sz
      have e2 := p2.sz
      have hh : 1 ≤ (here ax).length + (here bx).length := by
        have h : (lk 0 (here ax) key).2 = true ∨ (lk 0 (here bx) key).2 = true := by
          rw [← p1.ex, ← p2.ex, lk_has, lk_has]
          rcases HK.out with ⟨h1, rfl⟩ | ⟨h1, rfl⟩
          · left
            cases a with
            | nil => exact absurd rfl h1
            | node b0 l k v r => exact ⟨(k, v), by simp [items], rfl⟩
          · right
            cases b with
            | nil =>
              cases a with
              | nil => exact absurd rfl HAB.out
              | node b0 l k v r => simp [sz] at h1
            | node b0 l k v r => exact ⟨(k, v), by simp [items], rfl⟩
        rcases h with h | h
        · rw [lk_has] at h
          obtain ⟨y, hy, _⟩ := h
          have := List.length_pos_of_mem hy
          omega
        · rw [lk_has] at h
          obtain ⟨y, hy, _⟩ := h
          have := List.length_pos_of_mem hy
          omega
      omega
    have CH := Lib.hid (And.intro hL1 hL2)
    have HLA := Lib.hid hLa
    have PP := Lib.hid (And.intro p1 p2)
    have BB := Lib.hid (And.intro (SP1.out.bal TT.out.1) (SP2.out.bal TT.out.2.1))
    have hs1 : sz al + sz bl ≤ 1073741824 ∧ sz ar + sz br ≤ 1073741824 := by have e1 := p1.sz; have e2 := p2.sz; omega
    clear p1 p2 hL1 hL2 hLa
    have g1 := cell_of_one P12.out.el.g
    have g2 := cell_of_one P12.out.el.y
    have y1 := cell_of_one P12.out.y1
    have y2 := cell_of_one P12.out.y2
    have y3 := cell_of_one P12.out.y3
    have y4 := cell_of_one P12.out.y4
    refine (wpIn_wide (n := 6)).1 ?_
    gi_wp2
    refine ⟨trivial, ?_⟩
    have hpre1 : pre ++ L1 <+: L := by
      have h := HL.out
      rw [HLA.out, ← List.append_assoc] at h
      exact (List.prefix_append _ _).trans h
    refine (callsIn_wide.2 (IH.out al bl pre L1 w12 hsz.1 hs1.1 BB.out.1.1 BB.out.2.1 PP.out.1.sa PP.out.2.sa IA.out.1 IB.out.1 (by omega) (fun k hk => Nat.lt_of_lt_of_le (HSN.out k hk) K12.out.size) J12.out P12.out.el CH.out.1 hpre1)).mono ?_
    clear g1 g2 y1 y2 y3 y4 hpre1
    rintro e w13 (⟨rfl, hJ, hK⟩ | ⟨rfl, hJx, hK⟩)
    · have P13 := Lib.hid (P12.out.keep HX.out hK (by omega) (by omega) h2 h3 IA.out.1 IA.out.2 IB.out.1 IB.out.2)
      have K13 := Lib.hid (K12.out.trans hK)
      have J13 := Lib.hid hJ
      clear hJ hK P12 K12 J12
      have g1 := cell_of_one P13.out.el.g
      have g2 := cell_of_one P13.out.el.y
      have y2 := cell_of_one P13.out.y2
      have y4 := cell_of_one P13.out.y4
      cases ph <;> cases qh
      case false.false =>
        have hL3 : pre ++ L1 ++ L2 <+: L := by
          have h := HL.out
          rw [HLA.out] at h
          simpa [midC] using h
        have HE : Hid (J (pre ++ L1) w13 ∧ pre ++ L1 ++ L2 = pre ++ La) := Lib.hid ⟨J13.out, by rw [HLA.out]; simp [midC]⟩
        gi_wp2
        refine ⟨fun _ h => (by cases h), ?_⟩
        gi_wp2
        refine ⟨trivial, ?_⟩
        refine (callsIn_wide.2 (IH.out ar br _ L2 _ hsz.2 hs1.2 BB.out.1.2 BB.out.2.2 PP.out.1.sc PP.out.2.sc IA.out.2 IB.out.2 (by have := K13.out.size; omega) (fun k hk => Nat.lt_of_lt_of_le (HSN.out k hk) K13.out.size) HE.out.1 ⟨P13.out.el.g, P13.out.el.y, P13.out.ar, P13.out.br⟩ CH.out.2 hL3)).mono ?_
        clear g1 g2 y2 y4 hL3
        rintro e w15 (⟨rfl, hJ, hK⟩ | ⟨rfl, hJx, hK⟩)
        · have hJ2 := Lib.hid hJ
          have hK2 := Lib.hid (K13.out.trans hK)
          clear hJ hK
          gi_wp2
          go_wp2_with fail
          go_ret
          exact .inl ⟨rfl, by rw [← HE.out.2]; exact hJ2.out, hK2.out⟩
        · have hJ2 := Lib.hid hJx
          have hK2 := Lib.hid (K13.out.trans hK)
          clear hJx hK
          gi_wp2
          go_wp2_with fail
          go_ret
          exact .inr ⟨rfl, hJ2.out, hK2.out⟩
      case true.true =>
        have hL3 : pre ++ L1 ++ L2 <+: L := by
          have h := HL.out
          rw [HLA.out] at h
          simpa [midC] using h
        have HE : Hid (J (pre ++ L1) w13 ∧ pre ++ L1 ++ L2 = pre ++ La) := Lib.hid ⟨J13.out, by rw [HLA.out]; simp [midC]⟩
        gi_wp2
        refine ⟨fun _ h => (by cases h), ?_⟩
        gi_wp2
        refine ⟨trivial, ?_⟩
        refine (callsIn_wide.2 (IH.out ar br _ L2 _ hsz.2 hs1.2 BB.out.1.2 BB.out.2.2 PP.out.1.sc PP.out.2.sc IA.out.2 IB.out.2 (by have := K13.out.size; omega) (fun k hk => Nat.lt_of_lt_of_le (HSN.out k hk) K13.out.size) HE.out.1 ⟨P13.out.el.g, P13.out.el.y, P13.out.ar, P13.out.br⟩ CH.out.2 hL3)).mono ?_
        clear g1 g2 y2 y4 hL3
        rintro e w15 (⟨rfl, hJ, hK⟩ | ⟨rfl, hJx, hK⟩)
        · have hJ2 := Lib.hid hJ
          have hK2 := Lib.hid (K13.out.trans hK)
          clear hJ hK
          gi_wp2
          go_wp2_with fail
          go_ret
          exact .inl ⟨rfl, by rw [← HE.out.2]; exact hJ2.out, hK2.out⟩
        · have hJ2 := Lib.hid hJx
          have hK2 := Lib.hid (K13.out.trans hK)
          clear hJx hK
          gi_wp2
          go_wp2_with fail
          go_ret
          exact .inr ⟨rfl, hJ2.out, hK2.out⟩
      case false.true =>
        have hL3 : pre ++ L1 ++ [(key, (pv, false), (qv, true))] ++ L2 <+: L := by
          have h := HL.out
          rw [HLA.out] at h
          simpa [midC] using h
        have HE : Hid (pre ++ L1 ++ [(key, (pv, false), (qv, true))] ++ L2 = pre ++ La) := Lib.hid (by rw [HLA.out]; simp [midC])
        have hL4 : pre ++ L1 ++ [(key, (pv, false), (qv, true))] <+: L := (List.prefix_append _ _).trans hL3
        obtain ⟨fn, tmps, assign, body', hyy, hRR⟩ := yieldW (m' := 5) (HY.out _ _ _ J13.out hL4)
        simp only [encCh] at hyy
        gi_wp2
        refine (roundW hRR).mono ?_
        clear g1 g2 y2 y4
        rintro e w14 (⟨rfl, hJ, hK⟩ | ⟨rfl, hJx, hK⟩)
        · have P14 := Lib.hid (P13.out.keep HX.out hK (by omega) (by omega) h2 h3 IA.out.1 IA.out.2 IB.out.1 IB.out.2)
          have K14 := Lib.hid (K13.out.trans hK)
          have J14 := Lib.hid hJ
          clear hJ hK P13 K13 J13
          have g1 := cell_of_one P14.out.el.g
          have g2 := cell_of_one P14.out.el.y
          have y2 := cell_of_one P14.out.y2
          have y4 := cell_of_one P14.out.y4
          gi_wp2
          refine ⟨trivial, ?_⟩
          refine (callsIn_wide.2 (IH.out ar br _ L2 _ hsz.2 hs1.2 BB.out.1.2 BB.out.2.2 PP.out.1.sc PP.out.2.sc IA.out.2 IB.out.2 (by have := K14.out.size; omega) (fun k hk => Nat.lt_of_lt_of_le (HSN.out k hk) K14.out.size) J14.out ⟨P14.out.el.g, P14.out.el.y, P14.out.ar, P14.out.br⟩ CH.out.2 hL3)).mono ?_
          clear g1 g2 y2 y4 hL3
          rintro e w15 (⟨rfl, hJ, hK⟩ | ⟨rfl, hJx, hK⟩)
          · have hJ2 := Lib.hid hJ
            have hK2 := Lib.hid (K14.out.trans hK)
            clear hJ hK
            gi_wp2
            go_wp2_with fail
            go_ret
            exact .inl ⟨rfl, by rw [← HE.out]; exact hJ2.out, hK2.out⟩
          · have hJ2 := Lib.hid hJx
            have hK2 := Lib.hid (K14.out.trans hK)
            clear hJx hK
            gi_wp2
            go_wp2_with fail
            go_ret
            exact .inr ⟨rfl, hJ2.out, hK2.out⟩
        · have hJ2 : Hid (∃ pre', pre' <+: L ∧ Jx pre' w14) := Lib.hid ⟨_, hL4, hJx⟩
          have hK2 := Lib.hid (K13.out.trans hK)
          clear hJx hK
          gi_wp2
          (repeat (refine ⟨fun _ h => (by cases h), ?_⟩; gi_wp2))
          go_wp2_with fail
          go_ret
          exact .inr ⟨rfl, hJ2.out, hK2.out⟩
      case true.false =>
        have hL3 : pre ++ L1 ++ [(key, (pv, true), (qv, false))] ++ L2 <+: L := by
          have h := HL.out
          rw [HLA.out] at h
          simpa [midC] using h
        have HE : Hid (pre ++ L1 ++ [(key, (pv, true), (qv, false))] ++ L2 = pre ++ La) := Lib.hid (by rw [HLA.out]; simp [midC])
        have hL4 : pre ++ L1 ++ [(key, (pv, true), (qv, false))] <+: L := (List.prefix_append _ _).trans hL3
        obtain ⟨fn, tmps, assign, body', hyy, hRR⟩ := yieldW (m' := 5) (HY.out _ _ _ J13.out hL4)
        simp only [encCh] at hyy
        gi_wp2
        refine (roundW hRR).mono ?_
        clear g1 g2 y2 y4
        rintro e w14 (⟨rfl, hJ, hK⟩ | ⟨rfl, hJx, hK⟩)
        · have P14 := Lib.hid (P13.out.keep HX.out hK (by omega) (by omega) h2 h3 IA.out.1 IA.out.2 IB.out.1 IB.out.2)
          have K14 := Lib.hid (K13.out.trans hK)
          have J14 := Lib.hid hJ
          clear hJ hK P13 K13 J13
          have g1 := cell_of_one P14.out.el.g
          have g2 := cell_of_one P14.out.el.y
          have y2 := cell_of_one P14.out.y2
          have y4 := cell_of_one P14.out.y4
          gi_wp2
          refine ⟨trivial, ?_⟩
          refine (callsIn_wide.2 (IH.out ar br _ L2 _ hsz.2 hs1.2 BB.out.1.2 BB.out.2.2 PP.out.1.sc PP.out.2.sc IA.out.2 IB.out.2 (by have := K14.out.size; omega) (fun k hk => Nat.lt_of_lt_of_le (HSN.out k hk) K14.out.size) J14.out ⟨P14.out.el.g, P14.out.el.y, P14.out.ar, P14.out.br⟩ CH.out.2 hL3)).mono ?_
          clear g1 g2 y2 y4 hL3
          rintro e w15 (⟨rfl, hJ, hK⟩ | ⟨rfl, hJx, hK⟩)
          · have hJ2 := Lib.hid hJ
            have hK2 := Lib.hid (K14.out.trans hK)
            clear hJ hK
            gi_wp2
            go_wp2_with fail
            go_ret
            exact .inl ⟨rfl, by rw [← HE.out]; exact hJ2.out, hK2.out⟩
          · have hJ2 := Lib.hid hJx
            have hK2 := Lib.hid (K14.out.trans hK)
            clear hJx hK
            gi_wp2
            go_wp2_with fail
            go_ret
            exact .inr ⟨rfl, hJ2.out, hK2.out⟩
        · have hJ2 : Hid (∃ pre', pre' <+: L ∧ Jx pre' w14) := Lib.hid ⟨_, hL4, hJx⟩
          have hK2 := Lib.hid (K13.out.trans hK)
          clear hJx hK
          gi_wp2
          (repeat (refine ⟨fun _ h => (by cases h), ?_⟩; gi_wp2))
          go_wp2_with fail
          go_ret
          exact .inr ⟨rfl, hJ2.out, hK2.out⟩
    · have hJ2 := Lib.hid hJx
      have hK2 := Lib.hid (K12.out.trans hK)
      clear hJx hK
      gi_wp2
      all_goals try exact absurd (show some undef = some (Value.bool _) from by assumption) (fun h => by unfold undef at h; cases h)
      (repeat (refine ⟨fun _ h => (by cases h), ?_⟩; gi_wp2))
      go_wp2_with fail
      go_ret
      exact .inr ⟨rfl, hJ2.out, hK2.out⟩
theorem lk_ins {α : Type} {z : α} {k : ByteArray} {v : α} (q : ByteArray) : ∀ {l : List (ByteArray × α)}, Srt l → lk z (ins k v l) q = if q = k then (v, true) else lk z l q
  | [], _ => by
    simp only [ins, lk]
    by_cases h : k = q
    · subst h; simp
    · rw [if_neg h, if_neg (Ne.symm h)]
  | x :: l, hs => by
    obtain ⟨s1, s2⟩ := srt_cons.1 hs
    unfold ins
    split
    · simp only [lk]
      by_cases h : k = q
      · subst h; simp
      · rw [if_neg h, if_neg (Ne.symm h)]
    · split
      · rename_i h1 h2
        simp only [lk]
        rw [lk_ins q s2]
        by_cases h : x.1 = q
        · have hne : q ≠ k := by rw [← h]; exact klt_ne h2
          rw [if_pos h, if_neg hne, if_pos h]
        · rw [if_neg h, if_neg h]
      · rename_i h1 h2
        have e : k = x.1 := klt_tri (by simpa using h1) (by simpa using h2)
        simp only [lk]
        by_cases h : k = q
        · rw [if_pos h, if_pos h.symm]
        · rw [if_neg h, if_neg (Ne.symm h), if_neg (by rw [← e]; exact h)]
theorem at_own {β : Type} {B : Nat} (t : Tr Int) : OwnFrom B (fun (_ : β) W => AtI W t) := by
  intro s A A' row h hg hr
  refine h.keep fun b o ho hm => (hg.block b (Array.getElem?_eq_some_iff.1 ho).1 (fun e => ?_)).trans ho
  obtain ⟨_, o', ho', hc⟩ := hr b e.symm
  have hn := h.nds b hm
  obtain ⟨cs, hcs⟩ := hn
  rw [ho'] at hcs
  cases hcs
  cases hc
set_option maxRecDepth 100000 in
set_option maxHeartbeats 2000000 in
theorem chg_iter (n : Nat) (a b : Tr Int) (ab bb : Nat) (w : World) (S : Nat → Prop) (Ex : TypeId → Prop) (L : List (Chg1 Int))
    (hka : Boxed w ab 29 (.pointer (pa a))) (hkb : Boxed w bb 29 (.pointer (pa b))) (ha : AtI w a) (hb : AtI w b) (hSa : ∀ k ∈ blocks a, S k) (hSb : ∀ k ∈ blocks b, S k) (hSN : ∀ k, S k → k < w.heap.size) (hX : ExC Ex)
    (hz : sz a + sz b ≤ 1073741824) (ba : Bal a) (bab : Bal b) (sa : Srt (items a)) (sb : Srt (items b)) (hL : Chg 0 (items a) (items b) L) :
    Iter2 n Try.prog 38 #[.pointer (some ⟨ab, 0, none⟩), .pointer (some ⟨bb, 0, none⟩)] encCh (KeepE (w.heap.size + 2) S Ex)
      (fun pre x _ => pre ++ [x] <+: L) (fun _ xs W2 W' => xs = L ∧ W2 = W') (fun pre => pre <+: L) w := by
  intro ll J Jx W hW hW2 hJo hJxo hY h0
  have hkaW : Boxed W ab 29 (.pointer (pa a)) := boxStays hka hW
  have hkbW : Boxed W bb 29 (.pointer (pa b)) := boxStays hkb hW
  obtain ⟨s, hs⟩ : ∃ s, s = W.heap.size := ⟨_, rfl⟩
  obtain ⟨gv, hgv⟩ : ∃ gv : Value, gv = .func (.func 39) #[] #[.pointer (some ⟨s + 1, 0, none⟩), .pointer (some ⟨s, 0, none⟩)] := ⟨_, rfl⟩
  obtain ⟨Wb, hWb⟩ : ∃ Wb, (W.alloc (.cells #[.func (.yield ll) #[] #[]] 81)).alloc (.cells #[gv] 82) = Wb := ⟨_, rfl⟩
  have g1 : Boxed Wb s 81 (.func (.yield ll) #[] #[]) := by rw [← hWb, hs]; exact (Boxed.new W _ _).alloc _
  have g2 : Boxed Wb (s + 1) 82 gv := by
    have h1 := Boxed.new (W.alloc (.cells #[.func (.yield ll) #[] #[]] 81)) 82 gv
    rw [World.size_alloc, ← hs] at h1
    rw [← hWb]; exact h1
  have hbw : Below W.heap.size W Wb := by rw [← hWb]; exact ((Below.refl _ W).alloc (Nat.le_refl _) _).alloc (by simp) _
  have hsw : w.heap.size + 2 ≤ s := by rw [hs]; exact hW2
  have g3 : Boxed Wb ab 29 (.pointer (pa a)) := boxStays hkaW hbw
  have g4 : Boxed Wb bb 29 (.pointer (pa b)) := boxStays hkbW hbw
  have g5 : AtI Wb a := (ha.below hW rfl).below hbw rfl
  have g6 : AtI Wb b := (hb.below hW rfl).below hbw rfl
  have hJb : J [] Wb := ownFrom_to hJo h0 hbw
  have GO := Lib.hid (go1_chg (s + 1) s ll (w.heap.size + 2) S Ex L J Jx _ hJo (by omega) (by omega) hX (fun pre x W1 hj hx => yieldW (hY pre x W1 hj hx)) (sz a + sz b + 1) a b [] L Wb (by omega) hz ba bab sa sb (fun k hk => .inl (hSa k hk)) (fun k hk => .inl (hSb k hk)) (by have := hbw.size; omega)
    (fun k hk => Nat.lt_of_lt_of_le (hSN k hk) (Nat.le_trans hW.size hbw.size)) hJb ⟨by rw [← hgv]; exact g2, g1, g5, g6⟩ hL (by simp))
  have k3 := cell_of_one g3
  have k4 := cell_of_one g4
  rw [hgv] at hWb
  subst hs
  rw [← hWb] at k3 k4
  have HW := Lib.hid hWb
  clear hY hJb g1 g2 g3 g4 g5 g6 hbw h0 hWb hkaW hkbW hJo hJxo ha hb hka hkb hSN hgv hSa hSb
  refine callsIn_of_wp Try.func38 rfl trivial ?_ rfl
  simp only [Try.ntmps38, List.size_toArray, List.length_cons, List.length_nil, Nat.reduceAdd, Nat.reduceSub, Array.replicate_succ, Array.replicate_zero, List.push_toArray, List.append_toArray, List.nil_append, List.cons_append]
  gi_wp2
  try rw [HW.out]
  refine ⟨trivial, fun hh => (by cases (show false = true from hh)), ?_⟩
  refine (callsIn_wide.2 GO.out).mono ?_
  rintro e W' (⟨rfl, hJ', _⟩ | ⟨rfl, ⟨pre', hp, hJx'⟩, _⟩)
  · gi_wp2
    go_end0
    exact ⟨⟨_, rfl⟩, .inl ⟨L, _, by simpa using hJ', rfl, rfl⟩⟩
  · gi_wp2
    go_end0
    exact ⟨⟨_, rfl⟩, .inr ⟨pre', hp, hJx'⟩⟩
theorem wk_Changes (a b : Tr Int) (w : World) : Calls Try.prog 22 #[.agg #[.pointer (pa a)], .agg #[.pointer (pa b)]] w fun e w' =>
    ∃ c, e = .returned (.func (.func 38) #[] #[.pointer (some ⟨c, 0, none⟩), .pointer (some ⟨c + 1, 0, none⟩)]) ∧ w.heap.size = c ∧ Boxed w' c 29 (.pointer (pa a)) ∧ Boxed w' (c + 1) 29 (.pointer (pa b)) ∧ Below w.heap.size w w' := by
  obtain ⟨w1, c, g1, g2, g3, g4, g5⟩ := boxes2 w 29 (.pointer (pa a)) (.pointer (pa b))
  have H := Lib.hid (And.intro g1 (And.intro g3 (And.intro g4 g5)))
  clear g1 g3 g4 g5
  go_enter Try.func22, Try.ntmps22
  go_wp2_with fail
  go_ret
  rw [H.out.1]
  exact ⟨c, rfl, g2, H.out.2.1, H.out.2.2.1, H.out.2.2.2⟩
/-- What both have together. -/
def uniF (p q : Int × Bool) : Int × Bool := if p.2 = true then p else q
/-- Between two rounds. -/
def UnI (H : List (Nat × Obj)) (y : Nat) (a : Tr Int) (w : World) (pre : List (ByteArray × Int)) (W : World) : Prop :=
  ∃ o : Tr Int, Boxed W y 29 (.pointer (pa o)) ∧ AtI W o ∧ AtI W a ∧ Bal o ∧ Srt (items o) ∧ sz o ≤ sz a + pre.length ∧ (∀ k, lk 0 (items o) k = uniF (lk 0 (items a) k) (lk 0 pre k)) ∧ Facts H W ∧ Below w.heap.size w W
theorem unI_own {H : List (Nat × Obj)} {y : Nat} {a : Tr Int} {w : World} {B : Nat} (hH : ∀ p ∈ H, p.1 < B) (hy : y < B) (hw : w.heap.size ≤ B) : OwnFrom B (UnI H y a w) := by
  rintro pre A A' row ⟨o, h1, h2, h3, h4, h5, h6, h7, h8, h9⟩ hg hr
  exact ⟨o, own_block (β := Unit) hy () A A' row h1 hg hr, at_own (β := Unit) (B := B) o () A A' row h2 hg hr, at_own (β := Unit) (B := B) a () A A' row h3 hg hr, h4, h5, h6, h7, facts_own (β := Unit) H B hH () A A' row h8 hg hr, ownFrom_below (β := Unit) (Nat.le_refl _) hw () A A' row h9 hg hr⟩
theorem lk_snoc {α : Type} {z : α} {l : List (ByteArray × α)} {k q : ByteArray} {v : α} (h : ∀ x ∈ l, x.1 ≠ k) : lk z (l ++ [(k, v)]) q = if q = k then (v, true) else lk z l q := by
  by_cases e : q = k
  · subst e
    rw [if_pos rfl, lk_right h]
    simp [lk]
  · rw [if_neg e, lk_left]
    intro x hx
    rw [List.mem_singleton.1 hx]
    exact fun e' => e e'.symm
set_option maxRecDepth 100000 in
set_option maxHeartbeats 4000000 in
theorem wk_Union (a b : Tr Int) (w : World) (ha : AtI w a) (hb : AtI w b) (ba : Bal a) (sa : Srt (items a)) (sb : Srt (items b)) (hz : sz a + sz b ≤ 1073741824) :
    Calls Try.prog 21 #[.agg #[.pointer (pa a)], .agg #[.pointer (pa b)]] w fun e w' =>
      ∃ o : Tr Int, e = .returned (.agg #[.pointer (pa o)]) ∧ AtI w' o ∧ Bal o ∧ Srt (items o) ∧ sz o ≤ sz a + sz b ∧ (∀ k, lk 0 (items o) k = uniF (lk 0 (items a) k) (lk 0 (items b) k)) ∧ Below w.heap.size w w' := by
  obtain ⟨z, hz0⟩ : ∃ z, w.heap.size = z := ⟨_, rfl⟩
  have HA := Lib.hid ha
  have HB := Lib.hid hb
  have TT := Lib.hid (And.intro ba (And.intro sa sb))
  clear ha hb ba sa sb
  refine (callsIn_wide (n := 6)).1 ?_
  refine callsIn_of_wp_marks Try.func21 rfl trivial ?_ rfl
  simp only [Try.ntmps21, List.size_toArray, List.length_cons, List.length_nil, Nat.reduceAdd, Nat.reduceSub, Array.replicate_succ, Array.replicate_zero, List.push_toArray, List.append_toArray, List.nil_append, List.cons_append]
  refine wpIn_wide.2 ?_
  go_upto_region 2 with (fail)
  obtain ⟨w4, hw4⟩ : ∃ W, allocs w [.cells #[.pointer (pa a)] 29, .cells #[.pointer (pa b)] 29, .cells #[.pointer none] 29, .cells #[.pointer (pa a)] 29] = W := ⟨_, rfl⟩
  rw [show (((w.alloc (.cells #[.pointer (pa a)] 29)).alloc (.cells #[.pointer (pa b)] 29)).alloc (.cells #[.pointer none] 29)).alloc (.cells #[.pointer (pa a)] 29) = w4 from hw4]
  have hb4 : Below w.heap.size w w4 := by rw [← hw4]; exact allocs_below _ _
  have hx4 : ∀ i ob, [Obj.cells #[.pointer (pa a)] 29, .cells #[.pointer (pa b)] 29, .cells #[.pointer none] 29, .cells #[.pointer (pa a)] 29][i]? = some ob → w4.heap[z + i]? = some ob := fun i ob h => by have := allocs_get _ w i ob h; rw [hw4, hz0] at this; exact this
  have F4 : Hid (Facts [(z, .cells #[.pointer (pa a)] 29 (0, 0)), (z + 1, .cells #[.pointer (pa b)] 29 (0, 0)), (z + 1 + 1, .cells #[.pointer none] 29 (0, 0))] w4) := Lib.hid (fun p hp => by
    simp only [List.mem_cons, List.not_mem_nil, or_false] at hp
    rcases hp with rfl | rfl | rfl
    · exact hx4 0 _ rfl
    · exact hx4 1 _ rfl
    · exact hx4 2 _ rfl)
  have Y4 : Hid (Boxed w4 (z + 1 + 1 + 1) 29 (.pointer (pa a))) := Lib.hid (hx4 3 _ rfl)
  have B4 := Lib.hid hb4
  have k1 : w4.cell? ⟨z + 1, 0, none⟩ = some (.pointer (pa b)) := cell_of_one (F4.out (z + 1, .cells #[.pointer (pa b)] 29 (0, 0)) (by simp))
  have hA4 := Lib.hid (HA.out.below hb4 rfl)
  have hB4 := Lib.hid (HB.out.below hb4 rfl)
  have hz4 : z + 4 ≤ w4.heap.size := by have := (Array.getElem?_eq_some_iff.1 Y4.out).1; omega
  clear hb4 hx4 hw4
  go_wp2_with fail
  refine (pm_MAllI b w4).mono ?_
  rintro e w5 ⟨kb, mb, rfl, hkb, hmb, hbk, hbm, hb⟩
  have hA5 := hA4.out.below hb rfl
  have hB5 := hB4.out.below hb rfl
  have hF5 := F4.out.below hb
  have hY5 := boxStays Y4.out hb
  have hW5 : Below w.heap.size w w5 := B4.out.trans (hb.mono B4.out.size)
  have hz5 : z + 4 ≤ w5.heap.size := by have := hb.size; omega
  obtain ⟨H, hH⟩ : ∃ H : List (Nat × Obj), [(z, .cells #[.pointer (pa a)] 29 (0, 0)), (z + 1, .cells #[.pointer (pa b)] 29 (0, 0)), (z + 1 + 1, .cells #[.pointer none] 29 (0, 0))] = H := ⟨_, rfl⟩
  have hHz : ∀ p ∈ H, p.1 < z + 3 := by
    intro p hp
    rw [← hH] at hp
    simp only [List.mem_cons, List.not_mem_nil, or_false] at hp
    rcases hp with rfl | rfl | rfl <;> simp
  have hHm : (z, Obj.cells #[.pointer (pa a)] 29 (0, 0)) ∈ H ∧ (z + 1 + 1, Obj.cells #[.pointer none] 29 (0, 0)) ∈ H := by rw [← hH]; simp
  have hSlt : ∀ k, (k = kb ∨ k ∈ blocks b) → k < w5.heap.size := fun k hk => by
    rcases hk with rfl | hk
    · exact (Array.getElem?_eq_some_iff.1 hbk).1
    · exact hB5.lt k hk
  have HIter := pm_from_iterI 5 ⟨#[]⟩ b kb mb w5 (fun k => k = kb ∨ k ∈ blocks b) (fun _ => False) hbk hbm hB5 (.inl rfl) (fun k hk => .inr hk) (fun k hk => by
    rcases hk with rfl | hk
    · exact (Array.getElem?_eq_some_iff.1 hbk).1
    · exact hB5.lt k hk) (fun h => h) (fun h => h)
  rw [fromL_all] at HIter
  have r5 : UnI H (z + 1 + 1 + 1) a w [] w5 := ⟨a, hY5, hA5, hA5, TT.out.1, TT.out.2.1, by simp, fun k => by
    unfold uniF
    by_cases h : (lk 0 (items a) k).2 = true
    · rw [if_pos h]
    · rw [if_neg h, lk_not (by simpa using h)]; rfl, by rw [← hH]; exact hF5, hW5⟩
  have OWN : ∀ B, w5.heap.size ≤ B → OwnFrom B (UnI H (z + 1 + 1 + 1) a w) := fun B hB => unI_own (fun p hp => by have := hHz p hp; omega) (by omega) (by omega)
  have hyk : z + 1 + 1 + 1 ≠ kb := by omega
  have hyb : z + 1 + 1 + 1 ∉ blocks b := fun h => by have := HB.out.lt _ h; omega
  clear hA5 hB5 hF5 hY5 hW5 hb hbk hbm k1
  go_wp2_with fail
  refine (wpIn_wide (n := 6)).1 ?_
  have HH := Lib.hid hHm
  clear F4 Y4 B4 hA4 hB4 hH hHm
  refine range_law2 (n := 6) rfl (enters_of Try.func57 (by kernel_rfl) rfl) HIter (by omega) KeepE.trans (fun W o o' _ _ => KeepE.put W _ o' (by omega) (fun k hk => by have := hSlt k hk; omega)) (fun x => rfl) (fun pre => (by rintro _ _ _ _ h _ _; exact h)) ?_ (UnI H (z + 1 + 1 + 1) a w) (fun _ _ _ => False) (fun xs W => xs = items b ∧ UnI H (z + 1 + 1 + 1) a w xs W) (OWN _ (Nat.le_refl _)) (fun _ _ _ _ _ h _ _ => h) ?_ ?_ r5
    (fun pre q a' W => UnI H (z + 1 + 1 + 1) a w pre W ∧ pre ++ [q] <+: items b ∧ a' = { tmps := #[.agg #[.pointer (pa a)], .agg #[.pointer (pa b)], .pointer (some ⟨z, 0, none⟩), .pointer (some ⟨z + 1, 0, none⟩), .pointer (some ⟨z + 1 + 1, 0, none⟩), .pointer (some ⟨z + 1 + 1 + 1, 0, none⟩), .string q.1, .int .i64 q.2, undef, undef, .agg #[.pointer (pa a)], .agg #[.pointer (pa b)], .func (.func 57) #[] #[.pointer (some ⟨kb, 0, none⟩), .pointer (some ⟨mb, 0, none⟩)], .string q.1, .int .i64 q.2, undef, undef, undef, undef, undef, undef, undef, undef, undef, undef, undef, undef, undef], defers := [] }) ?_ ?assign ?body ?done ?stop
  · rintro W1 _ xs A B ⟨_, rfl⟩ k o _ ho _; exact ho
  · rintro xs A A' row ⟨h1, h2⟩ hg hr
    exact ⟨h1, OWN _ (Nat.le_refl _) xs A A' row h2 hg hr⟩
  · rintro W1 _ xs A B h ⟨h1, rfl⟩; exact ⟨h1, h⟩
  · rintro q a' pre A A' row ⟨h1, h2, h3⟩ hg hr
    exact ⟨OWN _ (Nat.le_refl _) pre A A' row h1 hg hr, h2, h3⟩
  case assign =>
    intro l pre q W K hi hx hsz hK
    have HI := Lib.hid hi
    clear hi
    simp only [encKVI, List.zip_toArray, List.zip_cons_cons, List.zip_nil_right, List.foldl_toArray, List.foldl_cons, List.foldl_nil]
    gi_wp2
    exact hK _ _ ⟨Nat.le_refl _, fun _ _ _ h _ => h⟩ (KeepE.refl _) hsz ⟨HI.out, hx, rfl⟩
  case body =>
    rintro l pre ⟨k, v⟩ a' W ⟨⟨o, h1, h2, h3, h4, h5, h6, h7, h8, h9⟩, hp, rfl⟩ hsz
    have hne : ∀ x ∈ pre, x.1 ≠ k := fun x hx => by
      obtain ⟨r, hr⟩ := hp
      have hs := TT.out.2.2
      rw [← hr] at hs
      exact klt_ne ((srt_append.1 (srt_append.1 hs).1).2.2 x hx (k, v) (by simp))
    have hpl : pre.length + 1 ≤ sz b := by have := hp.length_le; rw [sz_items] at this; simpa using this
    have NE := Lib.hid hne
    have A9 := Lib.hid (And.intro h2 (And.intro h3 (And.intro h4 (And.intro h5 (And.intro h6 h7)))))
    have F9 := Lib.hid h8
    have B9 := Lib.hid h9
    have Y9 := Lib.hid h1
    have k1 : W.cell? ⟨z, 0, none⟩ = some (.pointer (pa a)) := cell_of_one (h8 _ HH.out.1)
    clear HIter r5 OWN h1 h2 h3 h4 h5 h6 h7 h8 h9 hne hp
    gi_wp2
    refine ⟨trivial, ?_⟩
    refine (CallsIn.inRound l (callsIn_wide.2 (pm_MGetI a k W A9.out.2.1))).mono ?_
    rintro e W2 ⟨rfl, hb⟩
    have hlk : lk 0 (items a) k = (valOr (seek k a), isNI (seek k a)) := (prtT_lkI TT.out.2.1).symm
    obtain ⟨gv, hgv⟩ : ∃ x, valOr (seek k a) = x := ⟨_, rfl⟩
    obtain ⟨gb, hgb⟩ : ∃ x, isNI (seek k a) = x := ⟨_, rfl⟩
    rw [hgv, hgb] at hlk
    rw [hgv, hgb]
    have LK := Lib.hid hlk
    have hkp : KeepsFrom w5.heap.size W W2 := ⟨hb.size, fun k' o' _ ho _ => (hb.block k' (Array.getElem?_eq_some_iff.1 ho).1).trans ho⟩
    have hke : KeepE (w5.heap.size + 2) (fun k => k = kb ∨ k ∈ blocks b) (fun _ => False) W W2 := KeepE.below hb (fun k' hk' => Nat.lt_of_lt_of_le (hSlt k' hk') hsz)
    have KK := Lib.hid (And.intro hkp hke)
    have Y2 := Lib.hid (boxStays Y9.out hb)
    have F2 := Lib.hid (F9.out.below hb)
    have B2 : Hid (Below w.heap.size w W2) := Lib.hid (B9.out.trans (hb.mono B9.out.size))
    have O2 := Lib.hid (And.intro (A9.out.1.below hb rfl) (A9.out.2.1.below hb rfl))
    clear hlk hgv hgb hkp hke hb k1
    cases gb
    case true =>
      gi_wp2
      refine ⟨KK.out.1, KK.out.2, o, Y2.out, O2.out.1, O2.out.2, A9.out.2.2.1, A9.out.2.2.2.1, by have := A9.out.2.2.2.2.1; simp; omega, fun q => ?_, F2.out, B2.out⟩
      rw [A9.out.2.2.2.2.2, lk_snoc NE.out]
      by_cases e : q = k
      · subst e
        unfold uniF
        rw [LK.out]; rfl
      · rw [if_neg e]
    case false =>
      have k2 := cell_of_one Y2.out
      have f2 := frozen_of_row _ (z + 1 + 1 + 1) 0 _ _ Y2.out
      gi_wp2
      refine ⟨trivial, ?_⟩
      refine (CallsIn.inRound l (callsIn_wide.2 (pm_MPutI o k v W2.heap.size W2 (Nat.le_refl _) O2.out.1 (by have := A9.out.2.2.2.2.1; omega)))).mono ?_
      rintro e W3 ⟨o', hP, rfl, ho', hb⟩
      have y3 := boxStays Y2.out hb
      have f3 := frozen_of_row _ (z + 1 + 1 + 1) 0 _ _ y3
      have k3 := cell_of_one y3
      have Y3 := Lib.hid y3
      have PP := Lib.hid hP
      have OO := Lib.hid ho'
      have BB := Lib.hid hb
      clear k2 f2 y3 hP ho' hb
      gi_wp2
      have hyl : z + 1 + 1 + 1 < w5.heap.size := by omega
      have hs3 := BB.out.size
      refine ⟨⟨by simpa [World.setCell] using Nat.le_trans KK.out.1.size hs3, fun k' o2 hk' ho2 hc => (Below.heap_setCell _ _ _ _ (by simp; omega)).trans ((BB.out.block k' (Nat.lt_of_lt_of_le (Array.getElem?_eq_some_iff.1 ho2).1 KK.out.1.size)).trans (KK.out.1.same k' o2 hk' ho2 hc))⟩,
        (KK.out.2.trans (KeepE.below BB.out (fun k' hk' => Nat.lt_of_lt_of_le (hSlt k' hk') (Nat.le_trans hsz KK.out.1.size)))).trans (KeepE.setCell W3 (z + 1 + 1 + 1) 0 _ (by omega) (fun h => h.elim hyk hyb)), o', Boxed.set (t := 29) (v := .pointer (pa o)) (.pointer (pa o')) Y3.out, OO.out.setBox Y3.out (by decide) 0 _, (O2.out.2.below BB.out rfl).setBox Y3.out (by decide) 0 _, (PP.out.bal A9.out.2.2.1).1, by rw [PP.out.items A9.out.2.2.2.1]; exact ins_srt A9.out.2.2.2.1, ?_, fun q => ?_, (F2.out.below BB.out).setCell (fun p hp => by have := hHz p hp; omega) _, (B2.out.trans (BB.out.mono B2.out.size)).setCell (p := ⟨z + 1 + 1 + 1, 0, none⟩) (by simp; omega) _⟩
      · have e1 : sz o' ≤ sz o + 1 := by rw [← sz_items, PP.out.items A9.out.2.2.2.1, ← sz_items o]; exact ins_length _
        have := A9.out.2.2.2.2.1
        simp
        omega
      · rw [PP.out.items A9.out.2.2.2.1, lk_ins q A9.out.2.2.2.1, A9.out.2.2.2.2.2, lk_snoc NE.out]
        by_cases e : q = k
        · subst e
          rw [if_pos rfl, if_pos rfl]
          unfold uniF
          rw [LK.out]; rfl
        · rw [if_neg e, if_neg e]
  case done =>
    rintro D xs W1 hD ⟨rfl, o, h1, h2, h3, h4, h5, h6, h7, h8, h9⟩ hK
    have HKD := Lib.hid hK
    have A9 := Lib.hid (And.intro h2 (And.intro h4 (And.intro h5 (And.intro h6 h7))))
    have B9 := Lib.hid h9
    have x2 : Boxed W1 (z + 1 + 1) 29 (.pointer none) := h8 _ HH.out.2
    have X2 := Lib.hid x2
    have k1 := cell_of_one h1
    have k2 := cell_of_one x2
    have f2 := frozen_of_row _ (z + 1 + 1) 0 _ _ x2
    clear HIter r5 OWN h1 h2 h3 h4 h5 h6 h7 h8 h9 hK x2
    simp only [Exit.inBlock]
    go_wp2_with fail
    show LeavesInM _ _ _ _ _ _ (marks [D]) _ _
    have hDz : z + 1 + 1 ≠ D := by omega
    refine leaves_marks [D] _ (by simp) (fun p hp => ?_) ?_
    · obtain rfl : p = (D, .deferred (some [])) := by simpa [markF] using hp
      exact (Below.heap_setCell _ _ _ _ (by simp; omega)).trans HKD.out
    · intro W' e1 e2 e3 e4 e5
      have o2 := A9.out.1.setBox X2.out (by decide) 0 (.pointer (pa o))
      have b2 : Below w.heap.size w (W1.setCell ⟨z + 1 + 1, 0, none⟩ (.pointer (pa o))) := B9.out.setCell (p := ⟨z + 1 + 1, 0, none⟩) (by simp; omega) _
      have c4 : W'.cell? ⟨z + 1 + 1, 0, none⟩ = some (.pointer (pa o)) := cell_of_one ((e5 (z + 1 + 1) (by simp; omega)).trans (X2.out.set (.pointer (pa o))))
      refine ⟨.agg #[.pointer (pa o)], by simp [results, Try.results21, go_sem, c4], o, rfl, ?_, A9.out.2.1, A9.out.2.2.1, ?_, A9.out.2.2.2.2, ⟨e1.trans b2.os, e2.trans b2.tape, e3.trans b2.output, by rw [e4]; exact b2.size, fun k hk => (e5 k (by simp; omega)).trans (b2.block k hk)⟩⟩
      · refine o2.keep fun bb ob hob hm => (e5 bb (fun hbD => ?_)).trans hob
        obtain rfl : bb = D := by simpa using hbD
        obtain ⟨cs, hcs⟩ := o2.nds bb hm
        rw [(Below.heap_setCell _ _ _ _ (by simp; omega)).trans HKD.out] at hcs
        cases hcs
      · have := A9.out.2.2.2.1
        rw [sz_items] at this
        exact this
  case stop =>
    rintro D c pre W1 hD hSp hF hK
    exact hF.elim
end Go.Proofs.Ytdodkhhlbjamhaa

