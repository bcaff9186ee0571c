/- Words, contracts and walks that the proof stands on (TgT KeepX KpZ TgU KpU TgV TgA). -/
import Derived.LoopIn
import Derived.LoopNIn
import Derived.OwnWalkIn
import Derived.Shelf.Abstract
import Derived.Shelf.RegionOpen
import Derived.TacticsInMore
import Derived.Test.YtjlliohjeiclaaaGreatDoorKC1
import Derived.Test.YtjlliohjeiclaaaGreatDoorKC4
import Derived.Test.YtjlliohjeiclaaaGreatDoorKC7
import Derived.Test.YtjlliohjeiclaaaGreatDoorKC9
namespace Go.Proofs.YtjlliohjeiclaaaGreatDoor
open Go.RowKit St Pm
attribute [local go_sem] Oper.semAt_some
def encKey (p : ByteArray × ByteArray) : Array Value := #[.string p.1]
def GoesTags (n gf : Nat) (lb : Array Value) (S : Nat → Prop) (Ex : TypeId → Prop) (L : List (ByteArray × ByteArray)) (w : World) : Prop :=
 Iter2 n Tryz.prog gf lb encKey (KeepE (w.heap.size + 2) S Ex) (fun pre x _ => pre ++ [x] <+: L) (fun _ xs W2 W' => xs = L ∧ Below (w.heap.size + 2) W2 W' ∧ ∀ (k : Nat) (c : Array Value) (t : TypeId) (fr : Nat × Nat), W2.heap[k]? = some (Obj.cells c t fr) → W'.heap[k]? = some (Obj.cells c t fr)) (fun pre => pre <+: L) w
theorem ts_tags (tr : Tr ByteArray) (x : ByteArray) (w : World) : Calls Tryz.prog 65 #[.agg #[.pointer (pa tr)], .string x] w fun e w' =>
 ∃ tb mb, e = .returned (.func (.func 109) #[] #[.pointer (some ⟨tb, 0, none⟩), .pointer (some ⟨mb, 0, none⟩)]) ∧ w.heap.size ≤ mb ∧ w.heap.size ≤ tb ∧ Boxed w' mb 27 (.pointer (pa tr)) ∧
  w'.heap[tb]? = some (.cells #[.string x] 9 (0, 0)) ∧ Below w.heap.size w w' := by
 have HC : Hid (Chain [w] w) := Lib.hid (Chain.one w)
 go_enter Tryz.func65, Tryz.ntmps65
 go_upto_region 1 with (fail)
 obtain ⟨z, hz⟩ : ∃ c, w.heap.size = c := ⟨_, rfl⟩
 try rw [hz]
 obtain ⟨w1, hw1⟩ : ∃ X, allocs w [.cells #[.pointer (pa tr)] 27, .cells #[.string x] 9] = X := ⟨_, rfl⟩
 rw [show (w.alloc (.cells #[.pointer (pa tr)] 27)).alloc (.cells #[.string x] 9) = w1 from hw1]
 have hb : Below w.heap.size w w1 := by rw [← hw1]; exact allocs_below _ _
 have HM : Hid (w1.heap[z]? = some (.cells #[.pointer (pa tr)] 27 (0, 0))) := Lib.hid (by have := allocs_get [.cells #[.pointer (pa tr)] 27, .cells #[.string x] 9] w 0 _ rfl; rw [hw1, hz] at this; exact this)
 have HS : Hid (w1.heap[z + 1]? = some (.cells #[.string x] 9 (0, 0))) := Lib.hid (by have := allocs_get [.cells #[.pointer (pa tr)] 27, .cells #[.string x] 9] w 1 _ rfl; rw [hw1, hz] at this; exact this)
 have Sz : Hid (w.heap.size = z) := Lib.hid hz
 replace HC := Lib.hid (HC.out.push hb)
 clear hb hw1 hz
 go_wp2_with fail
 go_ret
 exact ⟨z + 1, z, rfl, by have := Sz.out; omega, by have := Sz.out; omega, HM.out, HS.out, (HC.out.to w (by simp))⟩
theorem fromL_subT (key : ByteArray) : ∀ (t : Tr ByteArray) (p : ByteArray × ByteArray), p ∈ fromL key t → p ∈ items t
 | .nil, p, h => by cases h
 | .node b l k v r, p, h => by
  simp only [fromL] at h
  simp only [items, List.mem_append, List.mem_cons]
  split at h
  · exact .inr (.inr (fromL_subT key r p h))
  · rcases List.mem_append.1 h with h | h
    · exact .inl (fromL_subT key l p h)
    · rcases List.mem_cons.1 h with rfl | h
      · exact .inr (.inl rfl)
      · exact .inr (.inr (fromL_subT key r p h))
theorem KeepE.narrowT {M M' : Nat} {S S' : Nat → Prop} {Ex : TypeId → Prop} {A B : World} (h : KeepE M S Ex A B) (hM : M ≤ M') (hS : ∀ k, S' k → S k ∨ (M ≤ k ∧ ∃ (c : Array Value) (t : TypeId) (fr : Nat × Nat), A.heap[k]? = some (.cells c t fr) ∧ ¬ Ex t)) : KeepE M' S' Ex A B :=
 ⟨h.os, h.tape, h.output, h.size, fun k hk => by
  rcases hS k hk with h1 | ⟨h1, c, t, fr, h2, h3⟩
  · exact h.block k h1
  · rw [h.rest k _ h1 h2 (fun _ _ _ e => by cases e; exact h3), h2], fun k o hk ho hc => h.rest k o (Nat.le_trans hM hk) ho hc⟩
theorem keepE_ownT {β : Type} {M : Nat} {S : Nat → Prop} {Ex : TypeId → Prop} {A : World} (hS : ∀ k, S k → k < A.heap.size) : OwnFrom A.heap.size (fun (_ : β) W => KeepE M S Ex A W) := by
 rintro _ X Y row h hg hr
 have hne : ∀ k, k < A.heap.size → k < X.heap.size → Y.heap[k]? = X.heap[k]? := fun k hk hx => hg.block k hx (fun e => by have := (hr k e.symm).1; omega)
 exact ⟨hg.os.trans h.os, hg.tape.trans h.tape, hg.output.trans h.output, Nat.le_trans h.size hg.size, fun k hk => (hne k (hS k hk) (Nat.lt_of_lt_of_le (hS k hk) h.size)).trans (h.block k hk), fun k o hk ho hc => by
  have hk2 := (Array.getElem?_eq_some_iff.1 ho).1
  exact (hne k hk2 (Nat.lt_of_lt_of_le hk2 h.size)).trans (h.rest k o hk ho hc)⟩
def TnI (J : List (ByteArray × ByteArray) → World → Prop) (x : ByteArray) (M : Nat) (S : Nat → Prop) (Ex : TypeId → Prop) (W5 : World) (pre : List (ByteArray × ByteArray)) (V : World) : Prop :=
 (∀ p ∈ pre, preT x p = true) ∧ J pre V ∧ KeepE M S Ex W5 V
theorem tnI_own {J : List (ByteArray × ByteArray) → World → Prop} {x : ByteArray} {M B : Nat} {S : Nat → Prop} {Ex : TypeId → Prop} {W5 : World} (hJo : OwnFrom B J) (hB : B ≤ W5.heap.size) (hS : ∀ k, S k → k < W5.heap.size) : OwnFrom W5.heap.size (TnI J x M S Ex W5) := by
 rintro pre A A' row ⟨h0, h1, h2⟩ hg hr
 exact ⟨h0, hJo _ A A' row h1 hg (fun r e => ⟨Nat.le_trans hB (hr r e).1, (hr r e).2⟩), keepE_ownT (β := Unit) hS () A A' row h2 hg hr⟩
def TnX (J Jx : List (ByteArray × ByteArray) → World → Prop) (L : List (ByteArray × ByteArray)) (V : World) : Prop := J L V ∨ ∃ p, p <+: L ∧ Jx p V
theorem tnX_own {β : Type} {J Jx : List (ByteArray × ByteArray) → World → Prop} {L : List (ByteArray × ByteArray)} {B C : Nat} (hJ : OwnFrom B J) (hJo : OwnFrom B Jx) (hB : B ≤ C) : OwnFrom C (fun (_ : β) V => TnX J Jx L V) := by
 rintro _ A A' row (h1 | ⟨p, h1, h2⟩) hg hr
 · exact .inl (hJ _ A A' row h1 hg (fun r e => ⟨Nat.le_trans hB (hr r e).1, (hr r e).2⟩))
 · exact .inr ⟨p, h1, hJo _ A A' row h2 hg (fun r e => ⟨Nat.le_trans hB (hr r e).1, (hr r e).2⟩)⟩
theorem tags_stop {x : ByteArray} {t : Tr ByteArray} {pre : List (ByteArray × ByteArray)} {q : ByteArray × ByteArray} (h : pre ++ [q] <+: fromL (frontB x) t) (hp : ∀ p ∈ pre, preT x p = true) (hq : preT x q = false) : tagsL x t = pre := by
 obtain ⟨r, hr⟩ := h
 unfold tagsL
 rw [← hr, List.append_assoc, List.takeWhile_append_of_pos hp, List.cons_append, List.takeWhile_cons_of_neg (by rw [hq]; simp), List.append_nil]
theorem tags_go {x : ByteArray} {t : Tr ByteArray} {pre : List (ByteArray × ByteArray)} (h : pre <+: fromL (frontB x) t) (hp : ∀ p ∈ pre, preT x p = true) : pre <+: tagsL x t := by
 obtain ⟨r, hr⟩ := h
 unfold tagsL
 rw [← hr, List.takeWhile_append_of_pos hp]
 exact ⟨_, rfl⟩
theorem tags_all {x : ByteArray} {t : Tr ByteArray} (hp : ∀ p ∈ fromL (frontB x) t, preT x p = true) : tagsL x t = fromL (frontB x) t := by
 unfold tagsL
 have := List.takeWhile_append_of_pos (l₂ := []) hp
 simpa using this
set_option maxRecDepth 100000 in
set_option maxHeartbeats 4000000 in
theorem ts_tags1 (n : Nat) (hn : 4 ≤ n) (tr : Tr ByteArray) (x : ByteArray) (tb mb : Nat) (w : World) (S : Nat → Prop) (Ex : TypeId → Prop) (hEx : ∀ t, Ex t → t = 43) (hs : w.heap[tb]? = some (.cells #[.string x] 9 (0, 0))) (hm : Boxed w mb 27 (.pointer (pa tr))) (h : AtS w tr) (hx : x.size ≤ 4294967280) (hG : Glob w)
 (hS : ∀ k, S k → k < w.heap.size) (hSt : ∀ b ∈ blocks tr, S b) :
 GoesTags n 109 #[.pointer (some ⟨tb, 0, none⟩), .pointer (some ⟨mb, 0, none⟩)] S Ex (tagsL x tr) w := by
 intro ll J Jx W hW hW2 hJo hJxo hY h0
 have hJ : ∀ pre A B, J pre A → Below A.heap.size A B → J pre B := fun pre A B h hb => ownFrom_to hJo h hb
 have E1 : ¬ Ex 9 := fun h => by have := hEx _ h; revert this; decide
 have E2 : ¬ Ex 103 := fun h => by have := hEx _ h; revert this; decide
 have E3 : ¬ Ex 27 := fun h => by have := hEx _ h; revert this; decide
 have HSB : Hid (W.heap[tb]? = some (.cells #[.string x] 9 (0, 0))) := Lib.hid (boxStays hs hW)
 have HMB : Hid (W.heap[mb]? = some (.cells #[.pointer (pa tr)] 27 (0, 0))) := Lib.hid (boxStays hm hW)
 have T := Lib.hid (h.below hW rfl)
 have HG := Lib.hid (hG.below hW)
 have HW2 := Lib.hid hW2
 have HHW := Lib.hid hW
 have HY := Lib.hid hY
 have HJ := Lib.hid hJ
 have HJo := Lib.hid hJo
 have HJxo := Lib.hid hJxo
 have HSS := Lib.hid hS
 have HST := Lib.hid hSt
 have H0 := Lib.hid h0
 have STOP := Lib.hid (fun pre q => tags_stop (x := x) (t := tr) (pre := pre) (q := q))
 have GO := Lib.hid (fun pre => tags_go (x := x) (t := tr) (pre := pre))
 have ALL := Lib.hid (tags_all (x := x) (t := tr))
 have FR := Lib.hid (fun V (hV : Glob V) => ts_front x V hx hV)
 have PRE : Hid (∀ p : ByteArray × ByteArray, Lib.hasPrefix p.1.data.toList (frontB x).data.toList = preT x p) := Lib.hid (fun p => rfl)
 obtain ⟨L, hL⟩ : ∃ q, tagsL x tr = q := ⟨_, rfl⟩
 obtain ⟨f, hf⟩ : ∃ q, frontB x = q := ⟨_, rfl⟩
 rw [hL] at HY ⊢
 simp only [hL, hf] at STOP GO ALL
 rw [hf] at PRE
 simp only [hf] at FR
 clear hW hW2 hY h0 hm hs h hS hSt hJo hJxo hJ hG hL hf
 refine callsIn_of_wp_marks Tryz.func109 rfl trivial ?_ rfl
 simp only [Tryz.ntmps109, List.size_toArray, List.length_cons, List.length_nil, Nat.reduceAdd, Nat.reduceSub, Array.replicate_succ, Array.replicate_zero, List.push_toArray, List.append_toArray, List.nil_append, List.cons_append]
 refine wpIn_wide.2 ?_
 have HC : Hid (Chain [W] W) := Lib.hid (Chain.one W)
 go_upto_region 1 with (fail)
 obtain ⟨yb, hyb⟩ : ∃ c, W.heap.size = c := ⟨_, rfl⟩
 try rw [hyb]
 obtain ⟨W1, hW1⟩ : ∃ X, allocs W [.cells #[.func (.yield ll) #[] #[]] 103] = X := ⟨_, rfl⟩
 rw [show W.alloc (.cells #[.func (.yield ll) #[] #[]] 103) = W1 from hW1]
 have hb : Below W.heap.size W W1 := by rw [← hW1]; exact allocs_below _ _
 have HYB : Hid (W1.heap[yb]? = some (.cells #[.func (.yield ll) #[] #[]] 103 (0, 0))) := Lib.hid (by have := allocs_get [.cells #[.func (.yield ll) #[] #[]] 103] W 0 _ rfl; rw [hW1, hyb] at this; exact this)
 have Syb : Hid (W.heap.size = yb) := Lib.hid hyb
 replace HC := Lib.hid (HC.out.push hb)
 clear hb hW1 hyb
 have kSB0 := cell_of_one (boxStays HSB.out (HC.out.to W (by simp)))
 go_wp2_with fail
 refine (FR.out _ (HG.out.below (HC.out.to W (by simp)))).mono ?_
 rintro e W2 ⟨rfl, hb⟩
 clear kSB0
 replace HC := Lib.hid (HC.out.push hb)
 clear hb
 have W2Z : Hid (W.heap.size ≤ W2.heap.size) := Lib.hid (HC.out.to W (by simp)).size
 go_upto_region 2 with (fail)
 obtain ⟨fb, hfb⟩ : ∃ c, W2.heap.size = c := ⟨_, rfl⟩
 try rw [hfb]
 obtain ⟨W3, hW3⟩ : ∃ X, allocs W2 [.cells #[.string f] 9] = X := ⟨_, rfl⟩
 rw [show W2.alloc (.cells #[.string f] 9) = W3 from hW3]
 have hb : Below W2.heap.size W2 W3 := by rw [← hW3]; exact allocs_below _ _
 have HFB : Hid (W3.heap[fb]? = some (.cells #[.string f] 9 (0, 0))) := Lib.hid (by have := allocs_get [.cells #[.string f] 9] W2 0 _ rfl; rw [hW3, hfb] at this; exact this)
 have Sfb : Hid (W2.heap.size = fb) := Lib.hid hfb
 replace HC := Lib.hid (HC.out.push hb)
 clear hb hW3 hfb
 have kMB0 := cell_of_one (boxStays HMB.out (HC.out.to W (by simp)))
 have kFB0 := cell_of_one HFB.out
 have W3Z : Hid (W.heap.size ≤ W3.heap.size) := Lib.hid (HC.out.to W (by simp)).size
 go_wp2_with fail
 refine (pm_MFromS tr f _).mono ?_
 rintro e W5 ⟨kb, mb2, rfl, hkb, hmb, hbk, hbm, hb⟩
 clear kMB0 kFB0
 replace HC := Lib.hid (HC.out.push hb)
 clear hb
 have BW5 := Lib.hid (HC.out.to W (by simp))
 have HY5 := Lib.hid (boxStays HYB.out (HC.out.to W1 (by simp)))
 have HF5 := Lib.hid (boxStays HFB.out (HC.out.to W3 (by simp)))
 have hT5 := T.out.below (HC.out.to W (by simp)) rfl
 have hw5 : W.heap.size ≤ W5.heap.size := (HC.out.to W (by simp)).size
 have hM5 : w.heap.size + 2 ≤ W5.heap.size := Nat.le_trans HW2.out hw5
 have hyb : w.heap.size + 2 ≤ yb ∧ yb < W5.heap.size := ⟨by rw [← Syb.out]; exact HW2.out, (Array.getElem?_eq_some_iff.1 HY5.out).1⟩
 have hfb : w.heap.size + 2 ≤ fb ∧ fb < W5.heap.size := ⟨by rw [← Sfb.out]; exact Nat.le_trans HW2.out W2Z.out, (Array.getElem?_eq_some_iff.1 HF5.out).1⟩
 have hkbz : w.heap.size + 2 ≤ kb := Nat.le_trans (Nat.le_trans HW2.out W3Z.out) hkb
 have hS5 : ∀ k, S k → k < W5.heap.size := fun k hk => by have := HSS.out k hk; omega
 have hSlt : ∀ k, (k = kb ∨ k ∈ blocks tr) → k < W5.heap.size := fun k hk => by
  rcases hk with rfl | hk
  · exact (Array.getElem?_eq_some_iff.1 hbk).1
  · exact hT5.lt k hk
 have HIter := pm_from_iterS (n - 1) f tr kb mb2 W5 (fun k => k = kb ∨ k ∈ blocks tr) Ex hbk hbm hT5 (.inl rfl) (fun k hk => .inr hk) hSlt (by first | exact E1 | exact E2 | exact E3 | (intro h; have := hEx _ h; revert this; decide)) (by first | exact E1 | exact E2 | exact E3 | (intro h; have := hEx _ h; revert this; decide))
 have r5 : TnI J x (w.heap.size + 2) S Ex W5 [] W5 := ⟨fun p hp => (by cases hp), HJ.out _ _ _ H0.out BW5.out, KeepE.refl _⟩
 have OWN := tnI_own (x := x) (M := w.heap.size + 2) (Ex := Ex) HJo.out hw5 hS5
 have HKB := Lib.hid hbk
 clear hT5 hbk hbm hkb hmb HC
 go_wp2_with fail
 refine (wpIn_wide (n := n)).1 ?_
 refine range_law2 (n := n) rfl (enters_of Tryz.func141 (by kernel_rfl) rfl) HIter (by omega) KeepE.trans (fun W o o' _ _ => KeepE.put W _ o' (by omega) (fun k hk => by have := hSlt k hk; omega)) (fun x => rfl) (fun pre => (by rintro _ _ _ _ h _ _; exact h)) ?_ (TnI J x (w.heap.size + 2) S Ex W5) (fun c pre V => c = .ret ∧ TnX J Jx L V) (fun xs V => xs = fromL f tr ∧ TnI J x (w.heap.size + 2) S Ex W5 xs V) OWN ?_ ?_ ?_ r5
  (fun pre q a' V => TnI J x (w.heap.size + 2) S Ex W5 pre V ∧ pre ++ [q] <+: fromL f tr ∧ a' = { tmps := #[.func (.yield ll) #[] #[], .pointer (some ⟨tb, 0, none⟩), .pointer (some ⟨mb, 0, none⟩), .pointer (some ⟨yb, 0, none⟩), .pointer (some ⟨fb, 0, none⟩), .string q.1, .string x, .string f, .agg #[.pointer (pa tr)], .string f, .func (.func 141) #[] #[.pointer (some ⟨kb, 0, none⟩), .pointer (some ⟨mb2, 0, none⟩)], .string q.1, .string q.2, undef, undef, undef, undef, undef, undef, undef, undef, undef, undef], defers := [] }) ?_ ?assign ?body ?done ?stop
 · rintro W1 _ xs A B ⟨_, rfl⟩ k o _ ho _; exact ho
 · rintro c xs A A' row ⟨h1, h2⟩ hg hr
   exact ⟨h1, tnX_own (β := Unit) HJo.out HJxo.out hw5 () A A' row h2 hg hr⟩
 · rintro xs A A' row ⟨h1, h2⟩ hg hr
   exact ⟨h1, OWN xs A A' row h2 hg hr⟩
 · rintro W1 _ xs A B h ⟨h1, rfl⟩; exact ⟨h1, h⟩
 · rintro q a' pre A A' row ⟨h1, h2, h3⟩ hg hr
   exact ⟨OWN pre A A' row h1 hg hr, h2, h3⟩
 case assign =>
  intro l pre q V K hi hx hsz hK
  have HI := Lib.hid hi
  clear hi
  simp only [encKVS, List.zip_toArray, List.zip_cons_cons, List.zip_nil_right, List.foldl_toArray, List.foldl_cons, List.foldl_nil]
  gi_wp2
  exact hK _ _ ⟨Nat.le_refl _, fun _ _ _ h _ => h⟩ (KeepE.refl _) hsz ⟨HI.out, hx, rfl⟩
 case body =>
  rintro l pre ⟨k, v⟩ a' V ⟨⟨h0, h1, h2⟩, hp, rfl⟩ hsz
  have P6 := Lib.hid h0
  have J6 := Lib.hid h1
  have K6 := Lib.hid h2
  have HP := Lib.hid hp
  have Y6 := Lib.hid (h2.rest yb _ hyb.1 HY5.out (fun _ _ _ e => by cases e; exact E2))
  have F6 := Lib.hid (h2.rest fb _ hfb.1 HF5.out (fun _ _ _ e => by cases e; exact E1))
  have KB6 := Lib.hid (h2.rest kb _ hkbz HKB.out (fun _ _ _ e => by cases e; exact E1))
  have GO1 : Hid (∀ X, Below V.heap.size V X → KeepE (w.heap.size + 2) S Ex V X) := Lib.hid (fun X hX => KeepE.below hX (fun k hk => by have := hS5 k hk; omega))
  have KF : Hid (∀ X, KeepE (w.heap.size + 2) S Ex V X → KeepsFrom W5.heap.size V X ∧ KeepE (W5.heap.size + 2) (fun k => k = kb ∨ k ∈ blocks tr) Ex V X) := Lib.hid (fun X hX =>
   ⟨⟨hX.size, fun k o hk ho hc => hX.rest k o (by omega) ho (fun _ _ _ e => by rw [e] at hc; cases hc)⟩, hX.narrowT (by omega) (fun k hk => by
    rcases hk with rfl | hk
    · exact .inr ⟨hkbz, _, _, _, KB6.out, E1⟩
    · exact .inl (HST.out k hk))⟩)
  obtain ⟨pr, hpr⟩ : ∃ b, preT x (k, v) = b := ⟨_, rfl⟩
  have HPF : Hid (∀ X, Calls Tryz.prog 111 #[.string k, .string f] X fun e w' => e = .returned (.bool pr) ∧ w' = X) := Lib.hid (fun X => by rw [← hpr, ← PRE.out (k, v)]; exact ts_HasPrefix k f X)
  have HPR := Lib.hid hpr
  have y0 := cell_of_one Y6.out
  have f0 := cell_of_one F6.out
  clear HIter r5 h0 h1 h2 hp hpr OWN
  gi_wp2
  refine ⟨trivial, fun _ => by omega, ?_⟩
  refine (CallsIn.inRound l (callsIn_wide.2 (HPF.out V))).mono ?_
  rintro e _ ⟨rfl, rfl⟩
  cases pr
  case false =>
   have FIN := Lib.hid (show TnX J Jx L _ from .inl (by rw [STOP.out pre (k, v) HP.out P6.out HPR.out]; exact J6.out))
   have KK := Lib.hid (KF.out _ (KeepE.refl _))
   gi_wp2
   first
    | exact ⟨KK.out.1, KK.out.2, rfl, FIN.out⟩
    | (refine ⟨fun f h => (by cases h), ?_⟩; gi_wp2; exact ⟨KK.out.1, KK.out.2, rfl, FIN.out⟩)
  case true =>
   have P7 : Hid (∀ p ∈ pre ++ [(k, v)], preT x p = true) := Lib.hid (fun p hp => by
    rcases List.mem_append.1 hp with hp | hp
    · exact P6.out p hp
    · rw [List.mem_singleton.1 hp]; exact HPR.out)
   have PX := Lib.hid (GO.out (pre ++ [(k, v)]) HP.out P7.out)
   have HYY := yieldW (m' := 5) (HY.out pre (k, v) _ J6.out PX.out)
   obtain ⟨fn, tmps, assign, body', hyy, hRR⟩ := HYY
   simp only [encKey] at hyy
   have RR := Lib.hid hRR
   clear hRR
   gi_wp2
   refine ⟨fun _ => by omega, RoundIn.mono (roundR RR.out) ?_⟩
   rintro e V4 (⟨rfl, hJ', hk⟩ | ⟨rfl, hJx', hk⟩)
   · have KK := Lib.hid (KF.out _ hk)
     have FIN := Lib.hid (show TnI J x (w.heap.size + 2) S Ex W5 (pre ++ [(k, v)]) V4 from ⟨P7.out, hJ', K6.out.trans hk⟩)
     clear hJ' hk hyy
     gi_wp2
     exact ⟨KK.out.1, KK.out.2, FIN.out⟩
   · have KK := Lib.hid (KF.out _ hk)
     have FIN := Lib.hid (show TnX J Jx L V4 from .inr ⟨_, PX.out, hJx'⟩)
     clear hJx' hk hyy
     gi_wp2
     exact ⟨KK.out.1, KK.out.2, rfl, FIN.out⟩
 case done =>
  rintro D xs V hD ⟨rfl, h0, h1, h2⟩ hK
  have HKD := Lib.hid hK
  have J6 := Lib.hid h1
  have HL := Lib.hid (ALL.out h0)
  clear HIter r5 h0 h1 h2 hK OWN
  simp only [Exit.inBlock]
  go_wp2_with fail
  try show LeavesInM _ _ _ _ _ _ (marks [D]) _ _
  refine leaves_marks [D] _ (by simp) (fun p hp => ?_) ?_
  · obtain rfl : p = (D, .deferred (some [])) := by simpa [markF] using hp
    exact HKD.out
  · intro W' e1 e2 e3 e4 e5
    exact ⟨.tuple #[], by simp [results, Tryz.results109, go_sem], ⟨_, rfl⟩, .inl ⟨fromL f tr, V, J6.out, HL.out.symm, ⟨e1, e2, e3, Nat.le_of_eq e4.symm, fun k hk => e5 k (by simp; omega)⟩, fun k c t fr hk => (e5 k (by simp; rintro rfl; rw [HKD.out] at hk; cases hk)).trans hk⟩⟩
 case stop =>
  rintro D c pre V hD hSp ⟨rfl, hx⟩ hK
  have HKD := Lib.hid hK
  have JX := Lib.hid hx
  clear HIter r5 hx hK OWN
  gi_wp2
  try show LeavesInM _ _ _ _ _ _ (marks [D]) _ _
  refine leaves_marks [D] _ (by simp) (fun p hp => ?_) ?_
  · obtain rfl : p = (D, .deferred (some [])) := by simpa [markF] using hp
    exact HKD.out
  · intro W' e1 e2 e3 e4 e5
    refine ⟨.tuple #[], by simp [results, Tryz.results109, go_sem], ⟨_, rfl⟩, ?_⟩
    rcases JX.out with h | ⟨p, hp, hx⟩
    · exact .inl ⟨L, V, h, rfl, ⟨e1, e2, e3, Nat.le_of_eq e4.symm, fun k hk => e5 k (by simp; omega)⟩, fun k c t fr hk => (e5 k (by simp; rintro rfl; rw [HKD.out] at hk; cases hk)).trans hk⟩
    · exact .inr ⟨p, hp, HJxo.out p V W' (some D) hx ⟨e1, e2, e3, Nat.le_of_eq e4.symm, fun k _ hne => e5 k (by simp; exact fun e => hne (by rw [e]))⟩ (fun r e => by cases e; exact ⟨by omega, _, HKD.out, rfl⟩)⟩
end Go.Proofs.YtjlliohjeiclaaaGreatDoor
namespace Go.Proofs.YtjlliohjeiclaaaGreatDoor
open Go.RowKit
structure KeepX (Ex : Nat → TypeId → Prop) (A B : World) : Prop where
 os : B.os = A.os
 tape : B.tape = A.tape
 output : B.output = A.output
 size : A.heap.size ≤ B.heap.size
 rest : ∀ k o, A.heap[k]? = some o → (∀ c t fr, o = .cells c t fr → ¬ Ex k t) → B.heap[k]? = some o
theorem KeepX.refl {Ex : Nat → TypeId → Prop} (A : World) : KeepX Ex A A := ⟨rfl, rfl, rfl, Nat.le_refl _, fun _ _ h _ => h⟩
theorem KeepX.trans {Ex : Nat → TypeId → Prop} {A B C : World} (h : KeepX Ex A B) (k : KeepX Ex B C) : KeepX Ex A C :=
 ⟨k.os.trans h.os, k.tape.trans h.tape, k.output.trans h.output, Nat.le_trans h.size k.size, fun i o ho ht => k.rest i o (h.rest i o ho ht) ht⟩
theorem KeepX.ofBelow {Ex : Nat → TypeId → Prop} {A B : World} (h : Below A.heap.size A B) : KeepX Ex A B :=
 ⟨h.os, h.tape, h.output, h.size, fun k _ ho _ => (h.block k (Array.getElem?_eq_some_iff.1 ho).1).trans ho⟩
theorem KeepX.drew {Ex : Nat → TypeId → Prop} {A B : World} (h : KeepX Ex A B) : KeepX Ex A B.drew := h.trans (KeepX.ofBelow (Below.refl _ B).drew)
theorem KeepX.alloc {Ex : Nat → TypeId → Prop} {A B : World} (h : KeepX Ex A B) (o : Obj) : KeepX Ex A (B.alloc o) :=
 h.trans (KeepX.ofBelow ((Below.refl _ B).alloc (Nat.le_refl _) o))
theorem KeepX.row {Ex : Nat → TypeId → Prop} {A B : World} (h : KeepX Ex A B) {b : Nat} {cs : Array Value} {t : TypeId} {fr : Nat × Nat} (hb : A.heap[b]? = some (.cells cs t fr)) (ht : ¬ Ex b t) : B.heap[b]? = some (.cells cs t fr) :=
 h.rest b _ hb fun c t' fr' e => by cases e; exact ht
theorem KeepX.setRow {Ex : Nat → TypeId → Prop} {A B : World} (h : KeepX Ex A B) {X : Nat} {cs : Array Value} {t : TypeId} {fr : Nat × Nat} (hX : B.heap[X]? = some (.cells cs t fr)) (ht : Ex X t) (i : Nat) (v : Value) : KeepX Ex A (B.setCell ⟨X, i, none⟩ v) :=
 ⟨h.os, h.tape, h.output, by simpa [World.setCell] using h.size, fun k o ho hn => (Below.heap_setCell _ _ _ _ (by
  show k ≠ X
  rintro rfl
  have h1 := h.rest k o ho hn
  rw [hX] at h1
  cases h1
  exact hn _ _ _ rfl ht)).trans (h.rest k o ho hn)⟩
def ChE (Ex : Nat → TypeId → Prop) (ws : List World) (w : World) : Prop := ∀ W ∈ ws, KeepX Ex W w
theorem ChE.one {Ex : Nat → TypeId → Prop} (w : World) : ChE Ex [w] w := fun W hW => by
 obtain rfl := List.mem_singleton.1 hW
 exact KeepX.refl _
theorem ChE.push {Ex : Nat → TypeId → Prop} {ws : List World} {w w' : World} (h : ChE Ex ws w) (hb : KeepX Ex w w') : ChE Ex (w' :: ws) w' := fun W hW => by
 rcases List.mem_cons.1 hW with rfl | hW
 · exact KeepX.refl _
 · exact (h W hW).trans hb
theorem ChE.to {Ex : Nat → TypeId → Prop} {ws : List World} {w : World} (h : ChE Ex ws w) (W : World) (hW : W ∈ ws) : KeepX Ex W w := h W hW
section
variable {P : Program} {ops : Array Oper} {Q : Exit → Act → World → Prop} {md : Region.Mode}
end
end Go.Proofs.YtjlliohjeiclaaaGreatDoor
namespace Go.Proofs.YtjlliohjeiclaaaGreatDoor
open Go.RowKit St Pm
theorem KeepX.toBelowZ {z : Nat} {A B : World} (h : KeepX (fun k _ => k = z) A B) (hz : z ≤ A.heap.size) : Below z A B :=
 ⟨h.os, h.tape, h.output, h.size, fun k hk => by
  cases e : A.heap[k]? with
  | none => rw [Array.getElem?_eq_none_iff] at e; omega
  | some o => exact h.rest k o e fun _ _ _ _ e => by omega⟩
theorem AtS.keepZ {z : Nat} {A B : World} {t : Tr ByteArray} (h : AtS A t) (hk : KeepX (fun k _ => k = z) A B) {cs : Array Value} {T : TypeId} {fr : Nat × Nat} (hx : A.heap[z]? = some (.cells cs T fr)) (hT : T ≠ 111) : AtS B t :=
 h.keep fun b o ho hm => hk.rest b o ho fun _ _ _ _ e => by subst e; exact h.other hx hT hm
end Go.Proofs.YtjlliohjeiclaaaGreatDoor
namespace Go.Proofs.YtjlliohjeiclaaaGreatDoor
open Go.RowKit St Pm
attribute [local go_sem] Oper.semAt_some
theorem ats_own {A A' : World} {row : Option Nat} {t : Tr ByteArray} (h : AtS A t) (hg : A.grownBy A' row) (hr : ∀ r, row = some r → ∃ o : Obj, A.heap[r]? = some o ∧ o.isCells = false) : AtS A' t :=
 h.keep fun b o ho hm => by
  obtain ⟨cs, h1⟩ := ats_nds h b hm
  rw [ho] at h1
  obtain rfl := Option.some.inj h1
  exact heap_kept hg hr ho
theorem delL_snoc (ks l : List (ByteArray × ByteArray)) (q : ByteArray × ByteArray) : delL (ks ++ [q]) l = del q.1 (delL ks l) := by unfold delL; rw [List.foldl_append]; rfl
theorem delL_srt {l : List (ByteArray × ByteArray)} (h : Srt l) (ks : List (ByteArray × ByteArray)) : Srt (delL ks l) := by rw [delL_filter]; exact h.sublist List.filter_sublist
theorem take_items {N : Nat} {k : ByteArray} {t t' : Tr ByteArray} (hs : Srt (items t)) (hB : Bal t) (h : (seek k t = .nil ∧ t' = t) ∨ (seek k t ≠ .nil ∧ TakeR N k t t')) : items t' = del k (items t) ∧ Bal t' ∧ sz t' ≤ sz t := by
 rcases h with ⟨h1, rfl⟩ | ⟨_, h2⟩
 · exact ⟨(del_none (seek_none hs h1)).symm, hB, Nat.le_refl _⟩
 · refine ⟨h2.items hs, (h2.bal hB).1, ?_⟩
   rw [← sz_items, ← sz_items, h2.items hs]
   exact List.length_filter_le _ _
def RmI (tr : Tr ByteArray) (H : List (Nat × Obj)) (c1 c2 : Nat) (w : World) (pre : List (ByteArray × ByteArray)) (W : World) : Prop :=
 (∃ t' : Tr ByteArray, Boxed W c1 27 (.pointer (pa t')) ∧ AtS W t' ∧ Bal t' ∧ items t' = delL pre (items tr) ∧ sz t' ≤ sz tr ∧ (pre = [] → t' = tr)) ∧ Boxed W c2 3 (.int .i64 (pre.length : Int)) ∧ Facts H W ∧ Below w.heap.size w W
theorem rmI_own {tr : Tr ByteArray} {H : List (Nat × Obj)} {c1 c2 : Nat} {w : World} {M : Nat} (hH : ∀ p ∈ H, p.1 < M) (h1 : c1 < M) (h2 : c2 < M) (hw : w.heap.size ≤ M) : OwnFrom M (RmI tr H c1 c2 w) := by
 rintro pre A A' row ⟨⟨t', g1, g2, g3, g4, g5, g6⟩, g7, g8, g9⟩ hg hr
 exact ⟨⟨t', own_block (β := Unit) h1 () A A' row g1 hg hr, ats_own g2 hg (fun r e => (hr r e).2), g3, g4, g5, g6⟩, own_block (β := Unit) h2 () A A' row g7 hg hr, facts_own (β := Unit) H M hH () A A' row g8 hg hr, ownFrom_below (β := Unit) (Nat.le_refl _) hw () A A' row g9 hg hr⟩
def RemOut (tr : Tr ByteArray) (x : ByteArray) (w : World) (e : Ending) (w' : World) : Prop :=
 if x.size ≤ 256 ∧ (items tr).all goodT = true then ∃ t' : Tr ByteArray, e = .returned (.tuple #[.agg #[.pointer (pa t')], .int .i64 ((tagsL x tr).length : Int), .int .i64 0]) ∧ AtS w' t' ∧ Bal t' ∧ items t' = delL (tagsL x tr) (items tr) ∧ (tagsL x tr = [] → t' = tr) ∧ Below w.heap.size w w'
 else e = .returned (.tuple #[.agg #[.pointer none], .int .i64 0, .int .i64 2]) ∧ Below w.heap.size w w'
set_option maxRecDepth 100000 in
set_option maxHeartbeats 8000000 in
theorem ts_Remove (tr : Tr ByteArray) (x : ByteArray) (w : World) (h : AtS w tr) (hB : Bal tr) (hSr : Srt (items tr)) (hz : sz tr ≤ 100000) (hk : ∀ p ∈ items tr, p.1.size ≤ 70368744177663) (hG : Glob w) :
 Calls Tryz.prog 23 #[.agg #[.pointer (pa tr)], .string x] w (RemOut tr x w) := by
 have O1 : Hid (∀ e w', x.size ≤ 256 → (items tr).all goodT = true → ∀ t' : Tr ByteArray, e = .returned (.tuple #[.agg #[.pointer (pa t')], .int .i64 ((tagsL x tr).length : Int), .int .i64 0]) → AtS w' t' → Bal t' → items t' = delL (tagsL x tr) (items tr) → (tagsL x tr = [] → t' = tr) → Below w.heap.size w w' → RemOut tr x w e w') := Lib.hid (fun e w' h1 h2 t' a b c d f g => by unfold RemOut; rw [if_pos ⟨h1, h2⟩]; exact ⟨t', a, b, c, d, f, g⟩)
 have O2 : Hid (∀ e w', (¬ x.size ≤ 256 ∨ (items tr).all goodT = false) → e = .returned (.tuple #[.agg #[.pointer none], .int .i64 0, .int .i64 2]) → Below w.heap.size w w' → RemOut tr x w e w') := Lib.hid (fun e w' h1 a b => by unfold RemOut; rw [if_neg (by rintro ⟨p, q⟩; rcases h1 with h1 | h1; exact h1 p; rw [q] at h1; cases h1)]; exact ⟨a, b⟩)
 have HT := Lib.hid h
 have HG := Lib.hid hG
 have HK := Lib.hid hk
 have HBal := Lib.hid hB
 have HSr := Lib.hid hSr
 obtain ⟨g, hg⟩ : ∃ g, (items tr).all goodT = g := ⟨_, rfl⟩
 rw [hg] at O1 O2
 have GG := Lib.hid hg
 clear h hk hG hg hB hSr
 obtain ⟨z, hz0⟩ : ∃ z, w.heap.size = z := ⟨_, rfl⟩
 refine (callsIn_wide (n := 6)).1 ?_
 refine callsIn_of_wp_marks Tryz.func23 rfl trivial ?_ rfl
 simp only [Tryz.ntmps23, List.size_toArray, List.length_cons, List.length_nil, Nat.reduceAdd, Nat.reduceSub, Array.replicate_succ, Array.replicate_zero, List.push_toArray, List.append_toArray, List.nil_append, List.cons_append]
 refine wpIn_wide.2 ?_
 rw [hz0] at O1 O2
 have HC : Hid (Chain [w] w) := Lib.hid (Chain.one w)
 go_upto_region 1 with (fail)
 obtain ⟨y, hy⟩ : ∃ c, w.heap.size = c := ⟨_, rfl⟩
 try rw [hy]
 obtain ⟨w1, hw1⟩ : ∃ X, allocs w [.cells #[.pointer (pa tr)] 27, .cells #[.pointer none] 27] = X := ⟨_, rfl⟩
 rw [show (w.alloc (.cells #[.pointer (pa tr)] 27)).alloc (.cells #[.pointer none] 27) = w1 from hw1]
 have hb : Below w.heap.size w w1 := by rw [← hw1]; exact allocs_below _ _
 have HM : Hid (w1.heap[y]? = some (.cells #[.pointer (pa tr)] 27 (0, 0))) := Lib.hid (by have := allocs_get [.cells #[.pointer (pa tr)] 27, .cells #[.pointer none] 27] w 0 _ rfl; rw [hw1, hy] at this; exact this)
 have HR : Hid (w1.heap[y + 1]? = some (.cells #[.pointer none] 27 (0, 0))) := Lib.hid (by have := allocs_get [.cells #[.pointer (pa tr)] 27, .cells #[.pointer none] 27] w 1 _ rfl; rw [hw1, hy] at this; exact this)
 have Sy : Hid (w.heap.size = y) := Lib.hid hy
 replace HC := Lib.hid (HC.out.push hb)
 clear hb hw1 hy
 obtain rfl : y = z := by rw [← Sy.out, hz0]
 go_wp2_with fail
 refine (ts_fits x _).mono ?_
 rintro e _ ⟨rfl, rfl⟩
 by_cases hf : x.size ≤ 256
 case neg =>
  rw [decide_eq_false hf]
  have NOT : Hid (¬ x.size ≤ 256 ∨ g = false) := Lib.hid (.inl hf)
  have RF := Lib.hid (boxStays HR.out (HC.out.to w1 (by simp)))
  have BF := Lib.hid (HC.out.to w (by simp))
  have c1 := cell_of_one RF.out
  have d1 := frozen_of_row _ (y + 1) 0 _ _ RF.out
  go_wp2_with fail
  have RS := Lib.hid (heap_setCell_same w1 (y + 1) 0 _ _ (.pointer none) RF.out)
  have BS : Hid (Below w.heap.size w (w1.setCell ⟨y + 1, 0, none⟩ (.pointer none))) := Lib.hid (BF.out.setCell (p := ⟨y + 1, 0, none⟩) (by have := Sy.out; simp; omega) _)
  try rw [Exit.noGoto_ret]
  try show LeavesInM _ _ _ _ _ _ (marks []) _ _
  refine leaves_marks [] _ (by simp) (fun p hp => by cases hp) ?_
  intro W' e1 e2 e3 e4 e5
  have k1 := cell_of_one ((e5 (y + 1) (by simp)).trans RS.out)
  have bW : Below w.heap.size w W' := ⟨e1.trans BS.out.os, e2.trans BS.out.tape, e3.trans BS.out.output, by rw [e4]; exact BS.out.size, fun k hk => (e5 k (by simp)).trans (BS.out.block k hk)⟩
  refine ⟨.tuple #[.agg #[.pointer none], .int .i64 0, .int .i64 2], by simp [results, Tryz.results23, go_sem, k1], ?_⟩
  exact O2.out _ _ NOT.out rfl (hz0 ▸ bW)
 case pos =>
 rw [decide_eq_true hf]
 have HF := Lib.hid hf
 clear hf
 have kM0 := cell_of_one HM.out
 go_wp2_with fail
 refine (ts_May tr _ (HT.out.below (HC.out.to w (by simp)) rfl) hz HK.out).mono ?_
 rintro e w2 ⟨rfl, hb⟩
 clear kM0
 replace HC := Lib.hid (HC.out.push hb)
 clear hb
 rw [GG.out]
 cases g
 case false =>
  have NOT : Hid (¬ x.size ≤ 256 ∨ false = false) := Lib.hid (.inr rfl)
  have RF := Lib.hid (boxStays HR.out (HC.out.to w1 (by simp)))
  have BF := Lib.hid (HC.out.to w (by simp))
  have c1 := cell_of_one RF.out
  have d1 := frozen_of_row _ (y + 1) 0 _ _ RF.out
  go_wp2_with fail
  have RS := Lib.hid (heap_setCell_same w2 (y + 1) 0 _ _ (.pointer none) RF.out)
  have BS : Hid (Below w.heap.size w (w2.setCell ⟨y + 1, 0, none⟩ (.pointer none))) := Lib.hid (BF.out.setCell (p := ⟨y + 1, 0, none⟩) (by have := Sy.out; simp; omega) _)
  try rw [Exit.noGoto_ret]
  try show LeavesInM _ _ _ _ _ _ (marks []) _ _
  refine leaves_marks [] _ (by simp) (fun p hp => by cases hp) ?_
  intro W' e1 e2 e3 e4 e5
  have k1 := cell_of_one ((e5 (y + 1) (by simp)).trans RS.out)
  have bW : Below w.heap.size w W' := ⟨e1.trans BS.out.os, e2.trans BS.out.tape, e3.trans BS.out.output, by rw [e4]; exact BS.out.size, fun k hk => (e5 k (by simp)).trans (BS.out.block k hk)⟩
  refine ⟨.tuple #[.agg #[.pointer none], .int .i64 0, .int .i64 2], by simp [results, Tryz.results23, go_sem, k1], ?_⟩
  exact O2.out _ _ NOT.out rfl (hz0 ▸ bW)
 case true =>
 have R2Z : Hid (y + 1 < w2.heap.size) := Lib.hid (Array.getElem?_eq_some_iff.1 (boxStays HR.out (HC.out.to w1 (by simp)))).1
 have kM0 := cell_of_one (boxStays HM.out (HC.out.to w1 (by simp)))
 go_upto_region 4 with (fail)
 clear kM0
 obtain ⟨o, ho⟩ : ∃ c, w2.heap.size = c := ⟨_, rfl⟩
 try rw [ho]
 obtain ⟨w3, hw3⟩ : ∃ X, allocs w2 [.cells #[.pointer (pa tr)] 27, .cells #[.int .i64 0] 3] = X := ⟨_, rfl⟩
 rw [show (w2.alloc (.cells #[.pointer (pa tr)] 27)).alloc (.cells #[.int .i64 0] 3) = w3 from hw3]
 have hb : Below w2.heap.size w2 w3 := by rw [← hw3]; exact allocs_below _ _
 have HO : Hid (w3.heap[o]? = some (.cells #[.pointer (pa tr)] 27 (0, 0))) := Lib.hid (by have := allocs_get [.cells #[.pointer (pa tr)] 27, .cells #[.int .i64 0] 3] w2 0 _ rfl; rw [hw3, ho] at this; exact this)
 have HN : Hid (w3.heap[o + 1]? = some (.cells #[.int .i64 0] 3 (0, 0))) := Lib.hid (by have := allocs_get [.cells #[.pointer (pa tr)] 27, .cells #[.int .i64 0] 3] w2 1 _ rfl; rw [hw3, ho] at this; exact this)
 have So : Hid (w2.heap.size = o) := Lib.hid ho
 replace HC := Lib.hid (HC.out.push hb)
 clear hb hw3 ho
 have kM0 := cell_of_one (boxStays HM.out (HC.out.to w1 (by simp)))
 go_wp2_with fail
 refine (ts_tags tr x _).mono ?_
 rintro e w5 ⟨tb, mb, rfl, hmb, htb, hbm, hbt, hb⟩
 clear kM0
 replace HC := Lib.hid (HC.out.push hb)
 clear hb
 have hoy : y + 1 < o := by have := R2Z.out; have := So.out; omega
 have BW5 := Lib.hid (HC.out.to w (by simp))
 have hO5 := boxStays HO.out (HC.out.to w3 (by simp))
 have hN5 := boxStays HN.out (HC.out.to w3 (by simp))
 have hR5 := boxStays HR.out (HC.out.to w1 (by simp))
 have hT5 := HT.out.below (HC.out.to w (by simp)) rfl
 have hG5 := HG.out.below (HC.out.to w (by simp))
 have ho5 : o + 1 < w5.heap.size := (Array.getElem?_eq_some_iff.1 hN5).1
 have hbl : ∀ b ∈ blocks tr, b < y := fun b hb => by have := HT.out.lt b hb; omega
 have hSlt : ∀ k, k ∈ blocks tr → k < w5.heap.size := fun k hk => hT5.lt k hk
 obtain ⟨H, hH⟩ : ∃ H : List (Nat × Obj), [(y + 1, .cells #[.pointer none] 27 (0, 0))] = H := ⟨_, rfl⟩
 have hHz : ∀ p ∈ H, p.1 = y + 1 := by intro p hp; rw [← hH] at hp; simp only [List.mem_cons, List.not_mem_nil, or_false] at hp; rw [hp]
 have HH : Hid ((y + 1, Obj.cells #[.pointer none] 27 (0, 0)) ∈ H) := Lib.hid (by rw [← hH]; simp)
 have HIter := ts_tags1 5 (by omega) tr x tb mb w5 (fun k => k ∈ blocks tr) (fun _ => False) (fun _ h => h.elim) hbt hbm hT5 (by have := HF.out; omega) hG5 hSlt (fun b hb => hb)
 unfold GoesTags at HIter
 obtain ⟨L, hL⟩ : ∃ L, tagsL x tr = L := ⟨_, rfl⟩
 rw [hL] at HIter O1
 have hLn : L.length ≤ 100000 := by
  rw [← hL]
  have h1 : (tagsL x tr).length ≤ (fromL (frontB x) tr).length := (List.takeWhile_sublist _).length_le
  have h2 : (fromL (frontB x) tr).length ≤ (items tr).length := by rw [fromL_filter _ _ HSr.out]; exact List.length_filter_le _ _
  rw [sz_items] at h2
  omega
 have r5 : RmI tr H o (o + 1) w [] w5 := ⟨⟨tr, hO5, hT5, HBal.out, rfl, Nat.le_refl _, fun _ => rfl⟩, hN5, fun p hp => by rw [← hH] at hp; simp only [List.mem_cons, List.not_mem_nil, or_false] at hp; rw [hp]; exact hR5, BW5.out⟩
 have hw5 : w.heap.size ≤ w5.heap.size := BW5.out.size
 have OWN : OwnFrom w5.heap.size (RmI tr H o (o + 1) w) := rmI_own (fun p hp => by have := hHz p hp; omega) (by omega) (by omega) hw5
 clear hO5 hN5 hR5 hT5 hG5 hbm hbt hmb htb HC hH
 go_wp2_with fail
 refine (wpIn_wide (n := 6)).1 ?_
 refine range_law2 (n := 6) rfl (enters_of Tryz.func109 (by kernel_rfl) rfl) HIter (by omega) KeepE.trans (fun W o o' _ _ => KeepE.put W _ o' (by omega) (fun k hk => by have := hSlt k hk; omega)) (fun x => rfl) (fun pre => (by rintro _ _ _ _ h _ _; exact h)) ?_ (RmI tr H o (o + 1) w) (fun _ _ _ => False) (fun xs V => xs = L ∧ RmI tr H o (o + 1) w xs V) OWN ?_ ?_ ?_ r5
  (fun pre q a' V => RmI tr H o (o + 1) w pre V ∧ pre ++ [q] <+: L ∧ a' = { tmps := #[.agg #[.pointer (pa tr)], .string x, .pointer (some ⟨y, 0, none⟩), undef, .pointer (some ⟨y + 1, 0, none⟩), .int .i64 0, .int .i64 0, .pointer (some ⟨o, 0, none⟩), .pointer (some ⟨o + 1, 0, none⟩), .string q.1, .string x, .bool true, .bool false, .bool false, .agg #[.pointer (pa tr)], .bool true, .bool false, .bool false, undef, .agg #[.pointer (pa tr)], .agg #[.pointer (pa tr)], .string x, .func (.func 109) #[] #[.pointer (some ⟨tb, 0, none⟩), .pointer (some ⟨mb, 0, none⟩)], .string q.1, undef, undef, undef, undef, undef, undef, undef], defers := [] }) ?_ ?assign ?body ?done ?stop
 · rintro W1 _ xs A B ⟨_, hb, _⟩ k o hk ho _; exact (hb.block k hk).trans ho
 · rintro c xs A A' row h hg hr; exact h
 · rintro xs A A' row ⟨h1, h2⟩ hg hr
   exact ⟨h1, OWN xs A A' row h2 hg hr⟩
 · rintro W1 _ xs A B ⟨⟨t', g1, g2, g3, g4, g5, g6⟩, g7, g8, g9⟩ ⟨h1, hb, hc⟩
   exact ⟨h1, ⟨t', hc _ _ _ _ g1, g2.keep fun b o ho hm => (by
    obtain ⟨cs, h1⟩ := ats_nds g2 b hm
    rw [ho] at h1
    obtain rfl := Option.some.inj h1
    exact hc _ _ _ _ ho), g3, g4, g5, g6⟩, hc _ _ _ _ g7, fun p hp => (hb.block p.1 (by have := hHz p hp; omega)).trans (g8 p hp), g9.trans (hb.mono (by omega))⟩
 · rintro q a' pre A A' row ⟨h1, h2, h3⟩ hg hr
   exact ⟨OWN pre A A' row h1 hg hr, h2, h3⟩
 case assign =>
  intro l pre q W K hi hx hsz hK
  have HI := Lib.hid hi
  clear hi
  simp only [encKey, List.zip_toArray, List.zip_cons_cons, List.zip_nil_right, List.foldl_toArray, List.foldl_cons, List.foldl_nil]
  gi_wp2
  exact hK _ _ ⟨Nat.le_refl _, fun _ _ _ h _ => h⟩ (KeepE.refl _) hsz ⟨HI.out, hx, rfl⟩
 case body =>
  rintro l pre ⟨k, v⟩ a' V ⟨⟨⟨t', h1, h2, h3, h4, h5, h6⟩, h7, h8, h9⟩, hp, rfl⟩ hsz
  have hpl : pre.length + 1 ≤ L.length := by have := hp.length_le; simpa using this
  have O9 : Hid (Boxed V o 27 (.pointer (pa t'))) := Lib.hid h1
  have N9 : Hid (Boxed V (o + 1) 3 (.int .i64 (pre.length : Int))) := Lib.hid h7
  have A9 := Lib.hid h2
  have I9 := Lib.hid h4
  have Bl9 := Lib.hid h3
  have F9 := Lib.hid h8
  have B9 := Lib.hid h9
  have hSt : Srt (items t') := by rw [h4]; exact delL_srt HSr.out _
  have St9 := Lib.hid hSt
  have hSV : ∀ k', k' ∈ blocks tr → k' < V.heap.size := fun k' hk' => Nat.lt_of_lt_of_le (hSlt k' hk') hsz
  have hov : o + 1 < V.heap.size := by omega
  obtain ⟨pn, hpn⟩ : ∃ n, pre.length = n := ⟨_, rfl⟩
  have PN := Lib.hid hpn
  rw [hpn] at N9 hpl
  have k0 := cell_of_one O9.out
  clear HIter r5 OWN h1 h2 h3 h4 h6 h7 h8 h9 hp hpn
  gi_wp2
  refine ⟨trivial, ?_⟩
  refine (CallsIn.inRound l (callsIn_wide.2 (pm_MTakeS t' k y V (by omega) A9.out (by omega)))).mono ?_
  rintro e V2 ⟨t2, hT2, rfl, hA2, hb⟩
  obtain ⟨g1, g2, g3⟩ := take_items St9.out Bl9.out hT2
  have BV : Hid (Below V.heap.size V V2) := Lib.hid (show Below V.heap.size V V2 from hb)
  have o2 := boxStays O9.out hb
  have n2 := boxStays N9.out hb
  have c7 := cell_of_one o2
  have f7 := frozen_of_row _ o 0 _ _ o2
  have c8 := cell_of_one n2
  have f8 := frozen_of_row _ (o + 1) 0 _ _ n2
  have hwr : IntKind.i64.wrap ((pn : Int) + 1) = (pn : Int) + 1 := by rw [IntKind.wrap_i64]; omega
  have u1 : Boxed (V2.setCell ⟨o, 0, none⟩ (.pointer (pa t2))) o 27 (.pointer (pa t2)) := Boxed.set _ o2
  have u2 : Boxed (V2.setCell ⟨o, 0, none⟩ (.pointer (pa t2))) (o + 1) 3 (.int .i64 (pn : Int)) := (Below.heap_setCell _ _ _ _ (by simp)).trans n2
  have u3 : Boxed ((V2.setCell ⟨o, 0, none⟩ (.pointer (pa t2))).setCell ⟨o + 1, 0, none⟩ (.int .i64 ((pn : Int) + 1))) o 27 (.pointer (pa t2)) := (Below.heap_setCell _ _ _ _ (by simp)).trans u1
  have u4 : Boxed ((V2.setCell ⟨o, 0, none⟩ (.pointer (pa t2))).setCell ⟨o + 1, 0, none⟩ (.int .i64 ((pn : Int) + 1))) (o + 1) 3 (.int .i64 ((pn : Int) + 1)) := Boxed.set _ u2
  have FIN := Lib.hid (show KeepsFrom w5.heap.size V ((V2.setCell ⟨o, 0, none⟩ (.pointer (pa t2))).setCell ⟨o + 1, 0, none⟩ (.int .i64 ((pn : Int) + 1))) ∧ KeepE (w5.heap.size + 2) (fun k => k ∈ blocks tr) (fun _ => False) V ((V2.setCell ⟨o, 0, none⟩ (.pointer (pa t2))).setCell ⟨o + 1, 0, none⟩ (.int .i64 ((pn : Int) + 1))) ∧ RmI tr H o (o + 1) w (pre ++ [(k, v)]) ((V2.setCell ⟨o, 0, none⟩ (.pointer (pa t2))).setCell ⟨o + 1, 0, none⟩ (.int .i64 ((pn : Int) + 1))) from
   ⟨⟨by simpa [World.setCell] using BV.out.size, fun k' o2 hk' ho2 hc => (Below.heap_setCell _ _ _ _ (by simp; omega)).trans ((Below.heap_setCell _ _ _ _ (by simp; omega)).trans ((BV.out.block k' (Array.getElem?_eq_some_iff.1 ho2).1).trans ho2))⟩,
    ((KeepE.below BV.out hSV).trans (KeepE.setCell V2 o 0 _ (by omega) (fun h => by have := hbl _ h; omega))).trans (KeepE.setCell _ (o + 1) 0 _ (by omega) (fun h => by have := hbl _ h; omega)),
    ⟨t2, u3, (hA2.setBox o2 (by decide) 0 _).setBox u2 (by decide) 0 _, g2, by rw [g1, I9.out, delL_snoc], by omega, fun h => absurd h (by simp)⟩, by rw [List.length_append, List.length_singleton, PN.out]; exact u4,
    ((F9.out.below BV.out).setCell (fun p hp => by have := hHz p hp; omega) _).setCell (fun p hp => by have := hHz p hp; omega) _, ((B9.out.trans (BV.out.mono B9.out.size)).setCell (p := ⟨o, 0, none⟩) (by simp; omega) _).setCell (p := ⟨o + 1, 0, none⟩) (by simp; omega) _⟩)
  clear hb o2 n2 u1 u2 u3 u4 hA2 hT2 g1 g2 g3 k0
  gi_wp2
  exact FIN.out
 case done =>
  rintro D xs V hD ⟨rfl, ⟨t', h1, h2, h3, h4, h5, h6⟩, h7, h8, h9⟩ hK
  have HKD := Lib.hid hK
  have O9 : Hid (Boxed V o 27 (.pointer (pa t'))) := Lib.hid h1
  have N9 : Hid (Boxed V (o + 1) 3 (.int .i64 (xs.length : Int))) := Lib.hid h7
  have A9 := Lib.hid h2
  have I9 := Lib.hid h4
  have L9 := Lib.hid h6
  have Bl9 := Lib.hid h3
  have R9 : Hid (Boxed V (y + 1) 27 (.pointer none)) := Lib.hid (h8 _ HH.out)
  have B9 := Lib.hid h9
  obtain ⟨pn, hpn⟩ : ∃ n, xs.length = n := ⟨_, rfl⟩
  have PN := Lib.hid hpn
  rw [hpn] at N9 O1
  clear HIter r5 OWN h1 h2 h3 h4 h6 h7 h8 h9 hK hpn hL
  simp only [Exit.inBlock]
  go_upto_region 8 with (fail)
  have YP : Hid (V.drew.heap[y + 1]? = some (.cells #[.pointer none] 27 (0, 0))) := R9
  refine wp_region_noPanic ?_
  refine wp_region_held_drew (S := fun w' => KeepX (fun k _ => k = y + 1) V w') (by kernel_rfl) (KeepX.refl _).drew (fun hS => ?_)
  refine wpAnyH_take (i := 0) (oi := ⟨some 29, _, _, _, _, _⟩) (v := ?_) rfl (by kernel_rfl) (by kernel_rfl) (by kernel_rfl) (fun _ _ _ h => h) (Or.inl ⟨by rfl, ?_⟩) hS ?_
  rotate_left 1
  · intro w' hB; have k0 := cell_of_one (hB.row O9.out (by omega)); have k1 := cell_of_one (hB.row N9.out (by omega)); (go_simp <;> with_reducible rfl)
  try simp only [Act.put, List.setIfInBounds_toArray, List.set_cons_zero, List.set_cons_succ]
  refine wpAnyH_take (i := 1) (oi := ⟨some 30, _, _, _, _, _⟩) (v := ?_) rfl (by kernel_rfl) (by kernel_rfl) (by kernel_rfl) (fun _ _ _ h => h) (Or.inl ⟨by rfl, ?_⟩) hS ?_
  rotate_left 1
  · intro w' hB; have k0 := cell_of_one (hB.row O9.out (by omega)); have k1 := cell_of_one (hB.row N9.out (by omega)); (go_simp <;> with_reducible rfl)
  try simp only [Act.put, List.setIfInBounds_toArray, List.set_cons_zero, List.set_cons_succ]
  refine wpAnyH_ready (rs := [2]) (by kernel_rfl) (by simp) (AllReadyH.cons (o := ⟨none, _, _, _, _, _⟩) rfl (fun K hK => ?_) AllReadyH.nil)
  have y1 := cell_of_one YP.out
  have f1 := frozen_of_row _ (y + 1) 0 _ _ YP.out
  replace hS := KeepX.setRow hS YP.out rfl 0 (Value.pointer (pa t'))
  replace YP := Lib.hid (Boxed.set (t := 27) (.pointer (pa t')) YP.out)
  go_simp
  refine hK.out _ _ hS (fun _ => ?_)
  clear hK K y1 f1
  try simp only [Act.put, List.setIfInBounds_toArray, List.set_cons_zero, List.set_cons_succ]
  refine wpAnyH_take (i := 3) (oi := ⟨some 5, _, _, _, _, _⟩) (v := ?_) rfl (by kernel_rfl) (by kernel_rfl) (by kernel_rfl) (fun _ _ _ h => h) (Or.inl ⟨by rfl, ?_⟩) hS ?_
  rotate_left 1
  · intro w' hB; have k0 := cell_of_one (hB.row O9.out (by omega)); have k1 := cell_of_one (hB.row N9.out (by omega)); (go_simp <;> with_reducible rfl)
  try simp only [Act.put, List.setIfInBounds_toArray, List.set_cons_zero, List.set_cons_succ]
  refine wpAnyH_take (i := 4) (oi := ⟨some 6, _, _, _, _, _⟩) (v := ?_) rfl (by kernel_rfl) (by kernel_rfl) (by kernel_rfl) (fun _ _ _ h => h) (Or.inl ⟨by rfl, ?_⟩) hS ?_
  rotate_left 1
  · intro w' hB; have k0 := cell_of_one (hB.row O9.out (by omega)); have k1 := cell_of_one (hB.row N9.out (by omega)); (go_simp <;> with_reducible rfl)
  try simp only [Act.put, List.setIfInBounds_toArray, List.set_cons_zero, List.set_cons_succ]
  refine wpAnyH_done (by kernel_rfl) (NoPanic.normal ?_) _
  have hy1 : y + 1 ≤ V.heap.size := Nat.le_of_lt (Array.getElem?_eq_some_iff.1 R9.out).1
  have YQ : Hid (Boxed (V.setCell ⟨y + 1, 0, none⟩ (.pointer (pa t'))).drew (y + 1) 27 (.pointer (pa t'))) := YP
  have A2 : Hid (AtS (V.setCell ⟨y + 1, 0, none⟩ (.pointer (pa t'))).drew t') := Lib.hid (A9.out.keepZ hS R9.out (by decide))
  have B2 : Hid (Below y w (V.setCell ⟨y + 1, 0, none⟩ (.pointer (pa t'))).drew) := Lib.hid ((hz0 ▸ B9.out).trans ((hS.toBelowZ hy1).mono (by omega)))
  have HD2 : Hid ((V.setCell ⟨y + 1, 0, none⟩ (.pointer (pa t'))).drew.heap[D]? = some (.deferred (some []))) := Lib.hid (hS.rest D _ HKD.out (fun c t fr e => by cases e))
  generalize (V.setCell ⟨y + 1, 0, none⟩ (.pointer (pa t'))).drew = V2 at *
  clear hS
  go_wp2_with fail
  try rw [Exit.noGoto_ret]
  try show LeavesInM _ _ _ _ _ _ (marks [D]) _ _
  refine leaves_marks [D] _ (by simp) (fun p hp => ?_) ?_
  · obtain rfl : p = (D, .deferred (some [])) := by simpa [markF] using hp
    exact HD2.out
  · intro W' e1 e2 e3 e4 e5
    have k1 := cell_of_one ((e5 (y + 1) (by simp; omega)).trans YQ.out)
    have bW : Below y w W' := ⟨e1.trans B2.out.os, e2.trans B2.out.tape, e3.trans B2.out.output, by rw [e4]; exact B2.out.size, fun k hk => (e5 k (by simp; omega)).trans (B2.out.block k hk)⟩
    refine ⟨.tuple #[.agg #[.pointer (pa t')], .int .i64 (pn : Int), .int .i64 0], by simp [results, Tryz.results23, go_sem, k1], ?_⟩
    refine O1.out _ _ HF.out (by simp) t' rfl (A2.out.keep fun b o ho hm => (e5 b (by
     simp
     rintro rfl
     obtain ⟨cs, h1⟩ := ats_nds A2.out _ hm
     rw [HD2.out] at h1
     cases h1)).trans ho) Bl9.out I9.out L9.out bW
 case stop =>
  rintro D c pre V hD hSp h hK
  exact absurd h id
end Go.Proofs.YtjlliohjeiclaaaGreatDoor
namespace Go.Proofs.YtjlliohjeiclaaaGreatDoor
open Go.RowKit
section
attribute [local go_sem] Oper.semAt_some
theorem wpListIn_app {F : Fence} {nn : Nat} {P : Program} {w : World} {ops : Array Oper} {rest : List Oper} {o : Oper} {a : Act} {Q : Exit → Act → World → Prop} (hgd : o.guard = none) (s x : Operand) (t tx : TypeId)
 (ho : o.op = .call { callee := .builtin .append, args := #[s, x], argTypes := #[t, tx] })
 (base : Nat) (e : TypeId) (z : Value) (size bytes : Nat) (ht : ElemT P t e z size bytes)
 (v : Value) (n : Nat) (xs : List Value) (hv : a.eval s = v) (hown : w.ownsRow base e size v n xs)
 (xv : Value) (m : Nat) (news : List Value) (hx : a.eval x = xv) (hs : Src P size tx xv m news w)
 (h63 : n + m ≤ 4611686018427387904) (hbytes : (n + m) * bytes ≤ 140737488355328) (hbase : base ≤ w.heap.size)
 (h : ∀ v' w', w'.ownsRow base e size v' (n + m) (xs ++ news) → w.grownBy w' v.ownBlock → Below base w w' → (v'.ownBlock = v.ownBlock ∨ v'.ownBlock = some w.heap.size) → wpListIn F nn P ops Q rest (a.put o.dst v') w') : wpListIn F nn P ops Q (o :: rest) a w := by
 obtain ⟨h1, i, h2, h3, h4, h5, h6⟩ := ht
 refine wpListIn_plain hgd fun K hK' => ?_
 obtain ⟨v', w', hrun, r1, r2, r3, _⟩ := run_append_own_src (P := P) w base t tx o.type e i z size bytes h1 h2 h3 h4 h5 h6 v n xs hown xv m news hs (by unfold maxLen; omega) hbytes hbase
 unfold Oper.wpIn
 refine ⟨?_, ?_⟩
 · simp [Oper.about, ho, resolve, Target.leads, Sem.run_pure]
 · rw [Oper.semAt_plain F _ _ (by rw [ho]; intro c hc'; cases hc')]
   simp [execOp, ho, resolve, invoke, builtin, hv, hx, hrun, Result.andThen]
   exact hK' _ _ (h v' w' r1 r2 (below_of_grown hown hbase r2) r3)
end
structure KeepU (S : Nat → Prop) (W W' : World) : Prop where
 os : W'.os = W.os
 tape : W'.tape = W.tape
 output : W'.output = W.output
 size : W.heap.size ≤ W'.heap.size
 block : ∀ k, S k → W'.heap[k]? = W.heap[k]?
theorem KeepU.refl (S : Nat → Prop) (W : World) : KeepU S W W := ⟨rfl, rfl, rfl, Nat.le_refl _, fun _ _ => rfl⟩
theorem KeepU.trans {S : Nat → Prop} {A B C : World} (h : KeepU S A B) (k : KeepU S B C) : KeepU S A C :=
 ⟨k.os.trans h.os, k.tape.trans h.tape, k.output.trans h.output, Nat.le_trans h.size k.size, fun i hi => (k.block i hi).trans (h.block i hi)⟩
theorem KeepU.below {S : Nat → Prop} {N : Nat} {A B : World} (h : Below N A B) (hS : ∀ k, S k → k < N) : KeepU S A B := ⟨h.os, h.tape, h.output, h.size, fun i hi => h.block i (hS i hi)⟩
theorem KeepU.put {S : Nat → Prop} {N : Nat} (W : World) (l : Nat) (o : Obj) (hl : N ≤ l) (hS : ∀ k, S k → k < N) : KeepU S W (W.putObj l o) :=
 ⟨rfl, rfl, rfl, by simp, fun i hi => World.putObj_heap_other (by have := hS i hi; omega)⟩
theorem KeepU.cell {S : Nat → Prop} {A B : World} (h : KeepU S A B) {p : Addr} {v : Value} (hp : S p.block) (hc : A.cell? p = some v) : B.cell? p = some v := by
 unfold World.cell? at hc ⊢
 rw [h.block _ hp]; exact hc
theorem KeepU.cells {S : Nat → Prop} {A B : World} (h : KeepU S A B) {a : Option Addr} {vs : List Value} (hp : ∀ ad, a = some ad → S ad.block) (hc : CellsAt A a vs) : CellsAt B a vs := by
 intro i hi
 obtain ⟨b, off, rfl, c⟩ := hc i hi
 exact ⟨b, off, rfl, h.cell (p := ⟨b, off + i, none⟩) (hp ⟨b, off, none⟩ rfl) c⟩
end Go.Proofs.YtjlliohjeiclaaaGreatDoor
namespace Go.Proofs.YtjlliohjeiclaaaGreatDoor
open Go.RowKit St Pm
attribute [local go_sem] Oper.semAt_some
def stL (s : Sv) : List Value := [.int .i64 s.g, .int .i64 s.r, .string s.l, .int .i64 s.n, .int .i64 s.i]
def stsV (l : List Sv) : List Value := l.flatMap stL
theorem stsV_append (l m : List Sv) : stsV (l ++ m) = stsV l ++ stsV m := by unfold stsV; rw [List.flatMap_append]
theorem stT : ElemT Tryz.prog 71 43 (.agg #[.int .i64 0, .int .i64 0, .string ⟨#[]⟩, .int .i64 0, .int .i64 0]) 5 48 := ElemT.mk Tryz.underlying71 (by kernel_rfl) (by simp [Value.cells])
theorem own_cells {A B : World} {base n size : Nat} {e : TypeId} {v : Value} {xs : List Value} (ho : A.ownsRow base e size v n xs) (hc : ∀ (k : Nat) (c : Array Value) (t : TypeId) (fr : Nat × Nat), A.heap[k]? = some (Obj.cells c t fr) → B.heap[k]? = some (Obj.cells c t fr)) : B.ownsRow base e size v n xs := by
 refine ⟨ho.1, ?_⟩
 rcases ho.2 with h1 | ⟨g, cap, cur, hv, hb, hg, h3⟩
 · exact .inl h1
 · exact .inr ⟨g, cap, cur, hv, hb, hc _ _ _ _ hg, h3⟩
def tagS (p : ByteArray × ByteArray) : Sv := (decT p).1
def TvI (c B : Nat) (w : World) (pre : List (ByteArray × ByteArray)) (W : World) : Prop :=
 (∃ v, Boxed W c 71 v ∧ W.ownsRow B 43 5 v pre.length (stsV (pre.map tagS)) ∧ True) ∧ Below w.heap.size w W
theorem tvI_own {c B : Nat} {w : World} {M : Nat} (hc : c < M) (hw : w.heap.size ≤ M) : OwnFrom M (TvI c B w) := by
 rintro pre A A' row ⟨h2, h4⟩ hg hr
 exact ⟨(holdsRow_own B c _ _ 5 (fun pre : List (ByteArray × ByteArray) => pre.length) (fun pre => stsV (pre.map tagS)) (fun _ _ => True)).from M pre A A' row h2 hg hr, ownFrom_below (β := Unit) (Nat.le_refl _) hw () A A' row h4 hg hr⟩
theorem tags_sub {x : ByteArray} {t : Tr ByteArray} (p : ByteArray × ByteArray) (h : p ∈ tagsL x t) : p ∈ items t := fromL_subT _ t p ((List.takeWhile_sublist _).subset h)
def TagsOut (tr : Tr ByteArray) (x : ByteArray) (w : World) (e : Ending) (w' : World) : Prop :=
 ∃ v, e = .returned v ∧ Below w.heap.size w w' ∧ ((items tr).all goodT = true → w'.ownsRow w.heap.size 43 5 v (tagsL x tr).length (stsV ((tagsL x tr).map tagS))) ∧ ((items tr).all goodT = false → v = .slice none 0 0)
set_option maxRecDepth 100000 in
set_option maxHeartbeats 8000000 in
theorem ts_Tags (tr : Tr ByteArray) (x : ByteArray) (w : World) (h : AtS w tr) (hSr : Srt (items tr)) (hz : sz tr ≤ 100000) (hk : ∀ p ∈ items tr, p.1.size ≤ 70368744177663) (hx : x.size ≤ 4294967280) (hG : Glob w) :
 Calls Tryz.prog 28 #[.agg #[.pointer (pa tr)], .string x] w (TagsOut tr x w) := by
 have HT := Lib.hid h
 have HG := Lib.hid hG
 have HKK := Lib.hid hk
 have HSr := Lib.hid hSr
 have SUB := Lib.hid (tags_sub (x := x) (t := tr))
 have hLn : (tagsL x tr).length ≤ 100000 := by
  have h1 : (tagsL x tr).length ≤ (fromL (frontB x) tr).length := (List.takeWhile_sublist _).length_le
  have h2 : (fromL (frontB x) tr).length ≤ (items tr).length := by rw [fromL_filter _ _ hSr]; exact List.length_filter_le _ _
  rw [sz_items] at h2
  omega
 have O1 : Hid (∀ e w' v, (items tr).all goodT = true → e = .returned v → Below w.heap.size w w' → w'.ownsRow w.heap.size 43 5 v (tagsL x tr).length (stsV ((tagsL x tr).map tagS)) → TagsOut tr x w e w') := Lib.hid (fun e w' v h1 h2 h3 h4 => ⟨v, h2, h3, fun _ => h4, fun h => by rw [h1] at h; cases h⟩)
 have O2 : Hid (∀ e w', (items tr).all goodT = false → e = .returned (.slice none 0 0) → Below w.heap.size w w' → TagsOut tr x w e w') := Lib.hid (fun e w' h1 h2 h3 => ⟨_, h2, h3, fun h => (by rw [h1] at h; cases h), fun _ => rfl⟩)
 obtain ⟨g, hg⟩ : ∃ g, (items tr).all goodT = g := ⟨_, rfl⟩
 rw [hg] at O1 O2
 have GG := Lib.hid hg
 clear h hk hG hg hSr
 obtain ⟨z, hz0⟩ : ∃ z, w.heap.size = z := ⟨_, rfl⟩
 refine (callsIn_wide (n := 6)).1 ?_
 refine callsIn_of_wp_marks Tryz.func28 rfl trivial ?_ rfl
 simp only [Tryz.ntmps28, List.size_toArray, List.length_cons, List.length_nil, Nat.reduceAdd, Nat.reduceSub, Array.replicate_succ, Array.replicate_zero, List.push_toArray, List.append_toArray, List.nil_append, List.cons_append]
 refine wpIn_wide.2 ?_
 have HC : Hid (Chain [w] w) := Lib.hid (Chain.one w)
 go_upto_region 1 with (fail)
 obtain ⟨y, hy⟩ : ∃ c, w.heap.size = c := ⟨_, rfl⟩
 try rw [hy]
 obtain ⟨w1, hw1⟩ : ∃ X, allocs w [.cells #[.pointer (pa tr)] 27] = X := ⟨_, rfl⟩
 rw [show w.alloc (.cells #[.pointer (pa tr)] 27) = w1 from hw1]
 have hb : Below w.heap.size w w1 := by rw [← hw1]; exact allocs_below _ _
 have HM : Hid (w1.heap[y]? = some (.cells #[.pointer (pa tr)] 27 (0, 0))) := Lib.hid (by have := allocs_get [.cells #[.pointer (pa tr)] 27] w 0 _ rfl; rw [hw1, hy] at this; exact this)
 have Sy : Hid (w.heap.size = y) := Lib.hid hy
 replace HC := Lib.hid (HC.out.push hb)
 clear hb hw1 hy
 obtain rfl : y = z := by rw [← Sy.out, hz0]
 have kM0 := cell_of_one HM.out
 go_wp2_with fail
 refine (ts_May tr _ (HT.out.below (HC.out.to w (by simp)) rfl) hz HKK.out).mono ?_
 rintro e w2 ⟨rfl, hb⟩
 clear kM0
 replace HC := Lib.hid (HC.out.push hb)
 clear hb
 rw [GG.out]
 cases g
 case false =>
  have BF := Lib.hid (HC.out.to w (by simp))
  go_wp2_with fail
  try rw [Exit.noGoto_ret]
  try show LeavesInM _ _ _ _ _ _ (marks []) _ _
  refine leaves_marks [] _ (by simp) (fun p hp => by cases hp) ?_
  intro W' e1 e2 e3 e4 e5
  have bW : Below w.heap.size w W' := ⟨e1.trans BF.out.os, e2.trans BF.out.tape, e3.trans BF.out.output, by rw [e4]; exact BF.out.size, fun k hk => (e5 k (by simp)).trans (BF.out.block k hk)⟩
  refine ⟨.slice none 0 0, by simp [results, Tryz.results28, go_sem], ?_⟩
  exact O2.out _ _ (by simp) rfl bW
 case true =>
 have M2Z : Hid (y < w2.heap.size) := Lib.hid (Array.getElem?_eq_some_iff.1 (boxStays HM.out (HC.out.to w1 (by simp)))).1
 go_upto_region 4 with (fail)
 obtain ⟨c, hc⟩ : ∃ c, w2.heap.size = c := ⟨_, rfl⟩
 try rw [hc]
 obtain ⟨w3, hw3⟩ : ∃ X, allocs w2 [.cells #[.slice none 0 0] 71] = X := ⟨_, rfl⟩
 rw [show w2.alloc (.cells #[.slice none 0 0] 71) = w3 from hw3]
 have hb : Below w2.heap.size w2 w3 := by rw [← hw3]; exact allocs_below _ _
 have HK : Hid (w3.heap[c]? = some (.cells #[.slice none 0 0] 71 (0, 0))) := Lib.hid (by have := allocs_get [.cells #[.slice none 0 0] 71] w2 0 _ rfl; rw [hw3, hc] at this; exact this)
 have Sc : Hid (w2.heap.size = c) := Lib.hid hc
 replace HC := Lib.hid (HC.out.push hb)
 clear hb hw3 hc
 have kM0 := cell_of_one (boxStays HM.out (HC.out.to w1 (by simp)))
 go_wp2_with fail
 refine (ts_tags tr x _).mono ?_
 rintro e w5 ⟨tb, mb, rfl, hmb, htb, hbm, hbt, hb⟩
 clear kM0
 replace HC := Lib.hid (HC.out.push hb)
 clear hb
 have hcy : y < c := by have := M2Z.out; have := Sc.out; omega
 have BW5 := Lib.hid (HC.out.to w (by simp))
 have hC5 := boxStays HK.out (HC.out.to w3 (by simp))
 have hT5 := HT.out.below (HC.out.to w (by simp)) rfl
 have hG5 := HG.out.below (HC.out.to w (by simp))
 have hc5 : c < w5.heap.size := (Array.getElem?_eq_some_iff.1 hC5).1
 have hbl : ∀ b ∈ blocks tr, b < y := fun b hb => by have := HT.out.lt b hb; omega
 have hSlt : ∀ k, k ∈ blocks tr → k < w5.heap.size := fun k hk => hT5.lt k hk
 have HIter := ts_tags1 5 (by omega) tr x tb mb w5 (fun k => k ∈ blocks tr) (fun t => t = 43) (fun _ h => h) hbt hbm hT5 hx hG5 hSlt (fun b hb => hb)
 unfold GoesTags at HIter
 obtain ⟨L, hL⟩ : ∃ L, tagsL x tr = L := ⟨_, rfl⟩
 rw [hL] at HIter O1 hLn
 simp only [hL] at SUB
 have r5 : TvI c w5.heap.size w [] w5 := ⟨⟨_, hC5, World.ownsRow_nil _ _ _ _, trivial⟩, BW5.out⟩
 have hw5 : w.heap.size ≤ w5.heap.size := BW5.out.size
 have OWN : OwnFrom w5.heap.size (TvI c w5.heap.size w) := tvI_own (by omega) hw5
 have ST := Lib.hid stT
 clear hC5 hT5 hG5 hbm hbt hmb htb HC
 go_wp2_with fail
 refine (wpIn_wide (n := 6)).1 ?_
 refine range_law2 (n := 6) rfl (enters_of Tryz.func109 (by kernel_rfl) rfl) HIter (by omega) KeepE.trans (fun W o o' _ _ => KeepE.put W _ o' (by omega) (fun k hk => by have := hSlt k hk; omega)) (fun x => rfl) (fun pre => (by rintro _ _ _ _ h _ _; exact h)) ?_ (TvI c w5.heap.size w) (fun _ _ _ => False) (fun xs V => xs = L ∧ TvI c w5.heap.size w xs V) OWN ?_ ?_ ?_ r5
  (fun pre q a' V => TvI c w5.heap.size w pre V ∧ pre ++ [q] <+: L ∧ a' = { tmps := #[.agg #[.pointer (pa tr)], .string x, .pointer (some ⟨y, 0, none⟩), undef, .slice none 0 0, .pointer (some ⟨c, 0, none⟩), .string q.1, undef, undef, .agg #[.pointer (pa tr)], .bool true, .bool false, .agg #[.pointer (pa tr)], .string x, .func (.func 109) #[] #[.pointer (some ⟨tb, 0, none⟩), .pointer (some ⟨mb, 0, none⟩)], .string q.1, undef, undef, undef, undef, undef, undef, undef, undef, undef, undef, undef], defers := [] }) ?_ ?assign ?body ?done ?stop
 · rintro W1 _ xs A B ⟨_, hb, _⟩ k o hk ho _; exact (hb.block k hk).trans ho
 · rintro c xs A A' row h hg hr; exact h
 · rintro xs A A' row ⟨h1, h2⟩ hg hr
   exact ⟨h1, OWN xs A A' row h2 hg hr⟩
 · rintro W1 _ xs A B ⟨⟨v, g1, g2, _⟩, g9⟩ ⟨h1, hb, hc⟩
   exact ⟨h1, ⟨v, hc _ _ _ _ g1, own_cells g2 hc, trivial⟩, g9.trans (hb.mono (by omega))⟩
 · rintro q a' pre A A' row ⟨h1, h2, h3⟩ hg hr
   exact ⟨OWN pre A A' row h1 hg hr, h2, h3⟩
 case assign =>
  intro l pre q W K hi hx hsz hK
  have HI := Lib.hid hi
  clear hi
  simp only [encKey, List.zip_toArray, List.zip_cons_cons, List.zip_nil_right, List.foldl_toArray, List.foldl_cons, List.foldl_nil]
  gi_wp2
  exact hK _ _ ⟨Nat.le_refl _, fun _ _ _ h _ => h⟩ (KeepE.refl _) hsz ⟨HI.out, hx, rfl⟩
 case body =>
  rintro l pre ⟨k, v⟩ a' V ⟨⟨⟨u, h1, h2, _⟩, h9⟩, hp, rfl⟩ hsz
  have hpl : pre.length + 1 ≤ L.length := by have := hp.length_le; simpa using this
  have hmem : (k, v) ∈ items tr := SUB.out _ (hp.subset (by simp))
  have hks := HKK.out _ hmem
  obtain ⟨ok, hke⟩ := goodT_iff (List.all_eq_true.1 GG.out _ hmem)
  have hof : ofT k = some (decT (k, v)) := by
   have h1 := ofT_tag ok
   have h2 : (k, v).1 = tagK (decT (k, v)) := congrArg Prod.fst hke
   rw [← h2] at h1
   exact h1
  obtain ⟨e, he⟩ : ∃ e, decT (k, v) = e := ⟨_, rfl⟩
  rw [he] at hof
  have TS : Hid (tagS (k, v) = e.1) := Lib.hid (by unfold tagS; rw [he])
  have C9 : Hid (Boxed V c 71 u) := Lib.hid h1
  have R9 := Lib.hid h2
  have B9 := Lib.hid h9
  have OK := ts_OfKey k V hks
  rw [hof] at OK
  have OK9 := Lib.hid OK
  have hSV : ∀ k', k' ∈ blocks tr → k' < V.heap.size := fun k' hk' => Nat.lt_of_lt_of_le (hSlt k' hk') hsz
  obtain ⟨pn, hpn⟩ : ∃ n, pre.length = n := ⟨_, rfl⟩
  have PN := Lib.hid hpn
  rw [hpn] at R9 hpl
  clear HIter r5 OWN h1 h2 h9 hp hpn hmem hks ok hke hof he OK
  gi_wp2
  refine ⟨trivial, ?_⟩
  refine (CallsIn.inRound l (callsIn_wide.2 OK9.out)).mono ?_
  rintro e' V2 ⟨rfl, hb⟩
  have bb : Below V.heap.size V V2 := hb
  simp only [elO]
  have BS : Hid (Below V.heap.size V (V2.alloc (.cells #[.int .i64 e.1.g, .int .i64 e.1.r, .string e.1.l, .int .i64 e.1.n, .int .i64 e.1.i, .string e.2] 53))) := Lib.hid (bb.trans ((below_new V2 _).mono bb.size))
  have xS := heap_alloc_new V2 (.cells #[.int .i64 e.1.g, .int .i64 e.1.r, .string e.1.l, .int .i64 e.1.n, .int .i64 e.1.i, .string e.2] 53)
  have q0 := cell_of_row _ _ 0 _ _ _ xS
  have q1 := cell_of_row _ _ 1 _ _ _ xS
  have q2 := cell_of_row _ _ 2 _ _ _ xS
  have q3 := cell_of_row _ _ 3 _ _ _ xS
  have q4 := cell_of_row _ _ 4 _ _ _ xS
  have c3 := boxStays C9.out BS.out
  have k0 := cell_of_one c3
  have C3 : Hid (Boxed (V2.alloc (.cells #[.int .i64 e.1.g, .int .i64 e.1.r, .string e.1.l, .int .i64 e.1.n, .int .i64 e.1.i, .string e.2] 53)) c 71 u) := Lib.hid c3
  have O3 := Lib.hid (own_later R9.out BS.out (Nat.le_refl _))
  have HBS : Hid (w5.heap.size ≤ (V2.alloc (.cells #[.int .i64 e.1.g, .int .i64 e.1.r, .string e.1.l, .int .i64 e.1.n, .int .i64 e.1.i, .string e.2] 53)).heap.size) := Lib.hid (Nat.le_trans hsz BS.out.size)
  have SRC : Hid (Src Tryz.prog 5 71 (.slice (some ⟨V2.heap.size + 1, 0, none⟩) 1 1) 1 (stL e.1) ((V2.alloc (.cells #[.int .i64 e.1.g, .int .i64 e.1.r, .string e.1.l, .int .i64 e.1.n, .int .i64 e.1.i, .string e.2] 53)).alloc (.cells #[.int .i64 e.1.g, .int .i64 e.1.r, .string e.1.l, .int .i64 e.1.n, .int .i64 e.1.i] 43))) := Lib.hid (by
   have h := (CellsAt.new (V2.alloc (.cells #[.int .i64 e.1.g, .int .i64 e.1.r, .string e.1.l, .int .i64 e.1.n, .int .i64 e.1.i, .string e.2] 53)) 43 (0, 0) (stL e.1)).srcN (size := 5) (n := 1) rfl (by simp [stL, Value.oneCell']) Tryz.underlying71 1 (by decide)
   rw [World.size_alloc] at h
   exact h)
  clear hb bb xS c3
  gi_wp2_with (gi_at_builtin; go_must (refine wpListIn_app rfl _ _ 71 71 rfl w5.heap.size 43 _ 5 48 ST.out u pn _ rfl (O3.out.alloc _) _ 1 (stL e.1) rfl SRC.out (by omega) (by omega) (by have := HBS.out; simp at this ⊢; omega) ?_); go_must (intro v6 w6 hown hgr hbel _; obtain ⟨a6, cp6, hv6, _⟩ := own_slice hown; subst hv6; have c6 : Boxed w6 c 71 u := (C3.out.alloc _).kept hgr (Boxed.not_row C3.out (by decide) O3.out)); have kc6 := cell_of_one c6; have fc6 := frozen_of_row _ c 0 _ _ c6)
  have V6 : Hid (Boxed w6 c 71 u) := Lib.hid c6
  have OW6 := Lib.hid hown
  have GR := Lib.hid hgr
  have hcV : c < V.heap.size := by omega
  have hcs : c < (V2.alloc (.cells #[.int .i64 e.1.g, .int .i64 e.1.r, .string e.1.l, .int .i64 e.1.n, .int .i64 e.1.i, .string e.2] 53)).heap.size := (Array.getElem?_eq_some_iff.1 C3.out).1
  clear hown hgr hbel c6 kc6 fc6 k0 q0 q1 q2 q3 q4
  have hne : some c ≠ (Value.slice a6 (pn + 1) cp6).ownBlock := Boxed.not_row V6.out (by decide) OW6.out
  have RK : RowKeep c u V (w6.setCell ⟨c, 0, none⟩ (.slice a6 (pn + 1) cp6)) := RowKeep.after BS.out ⟨GR.out.os, GR.out.tape, GR.out.output, by have := GR.out.size; simp [World.setCell] at this ⊢; omega, fun k h1 h2 h3 =>
   (Below.heap_setCell _ _ _ _ (by simpa using h2)).trans ((GR.out.block k (by simp at h1 ⊢; omega) (fun e => h3 e.symm)).trans ((below_new _ _).block k h1))⟩
  have FIN := Lib.hid (show KeepsFrom w5.heap.size V (w6.setCell ⟨c, 0, none⟩ (.slice a6 (pn + 1) cp6)) ∧ KeepE (w5.heap.size + 2) (fun k => k ∈ blocks tr) (fun x => x = 43) V (w6.setCell ⟨c, 0, none⟩ (.slice a6 (pn + 1) cp6)) ∧ TvI c w5.heap.size w (pre ++ [(k, v)]) (w6.setCell ⟨c, 0, none⟩ (.slice a6 (pn + 1) cp6)) from
   ⟨RK.from C9.out R9.out _, RowKeep.keepE (t := 43) (u := u) RK R9.out (fun k hk => ⟨hSlt k hk, by have := hbl k hk; omega⟩) hSV (by omega),
    ⟨_, Boxed.set _ V6.out, by
     have e1 : stsV ((pre ++ [(k, v)]).map tagS) = stsV (pre.map tagS) ++ stL e.1 := by rw [List.map_append, stsV_append]; simp [stsV, TS.out]
     rw [e1, List.length_append, List.length_singleton, PN.out]
     exact OW6.out.kept (grownBy_setCell' w6 c _) (.inr hne.symm), trivial⟩, B9.out.trans (RK.below (by omega) R9.out hw5 B9.out.size)⟩)
  clear RK hne
  gi_wp2
  exact FIN.out
 case done =>
  rintro D xs V hD ⟨rfl, ⟨u, h1, h2, _⟩, h9⟩ hK
  have HKD := Lib.hid hK
  obtain ⟨a6, cp6, hv6, _⟩ := own_slice h2
  subst hv6
  have B9 := Lib.hid h9
  have R9 := Lib.hid h2
  have k0 := cell_of_one h1
  obtain ⟨pn, hpn⟩ : ∃ n, xs.length = n := ⟨_, rfl⟩
  rw [hpn] at R9 k0 O1
  clear HIter r5 OWN h1 h2 h9 hK hL hpn
  simp only [Exit.inBlock]
  go_wp2_with fail
  try rw [Exit.noGoto_ret]
  try show LeavesInM _ _ _ _ _ _ (marks [D]) _ _
  refine leaves_marks [D] _ (by simp) (fun p hp => ?_) ?_
  · obtain rfl : p = (D, .deferred (some [])) := by simpa [markF] using hp
    exact HKD.out
  · intro W' e1 e2 e3 e4 e5
    have bW : Below w.heap.size w W' := ⟨e1.trans B9.out.os, e2.trans B9.out.tape, e3.trans B9.out.output, by rw [e4]; exact B9.out.size, fun k hk => (e5 k (by simp; omega)).trans (B9.out.block k hk)⟩
    refine ⟨.slice a6 pn cp6, by simp [results, Tryz.results28, go_sem], ?_⟩
    exact O1.out _ _ _ (by simp) rfl bW (own_mono (own_cells R9.out (fun k c t fr hk => (e5 k (by simp; rintro rfl; rw [HKD.out] at hk; cases hk)).trans hk)) hw5)
 case stop =>
  rintro D c pre V hD hSp h hK
  exact absurd h id
theorem ts_Has (tr : Tr ByteArray) (x : ByteArray) (w : World) (h : AtS w tr) (hSr : Srt (items tr)) (hz : sz tr ≤ 100000) (hk : ∀ p ∈ items tr, p.1.size ≤ 70368744177663) (hx : x.size ≤ 4294967280) (hG : Glob w) :
 Calls Tryz.prog 27 #[.agg #[.pointer (pa tr)], .string x] w fun e w' => e = .returned (.bool ((items tr).all goodT && decide (0 < (tagsL x tr).length))) ∧ Below w.heap.size w w' := by
 have b1 := below_new w (.cells #[.pointer (pa tr)] 27)
 have C := Lib.hid (ts_Tags tr x _ (h.below b1 rfl) hSr hz hk hx (hG.below b1))
 have B1 := Lib.hid b1
 obtain ⟨g, hg⟩ : ∃ g, (items tr).all goodT = g := ⟨_, rfl⟩
 obtain ⟨n, hn⟩ : ∃ n, (tagsL x tr).length = n := ⟨_, rfl⟩
 unfold TagsOut at C
 rw [hg, hn] at C
 rw [hg, hn]
 clear h hk b1 hg hn
 go_enter Tryz.func27, Tryz.ntmps27
 go_wp2_with fail
 refine C.out.mono ?_
 rintro e w2 ⟨v, rfl, hb, h1, h2⟩
 have HB := Lib.hid (B1.out.trans (hb.mono B1.out.size))
 cases g with
 | true =>
  obtain ⟨a, c, rfl, _⟩ := own_slice (h1 rfl)
  by_cases hp : 0 < n
  · have hpi : (0 : Int) < (n : Int) := by omega
    have hd : (true && decide (0 < n)) = true := by simp [hp]
    have HD := Lib.hid hd
    clear h1 h2 hb hd
    go_wp2_with fail
    go_ret
    first | exact ⟨rfl, HB.out⟩ | exact ⟨by rw [HD.out]; rfl, HB.out⟩ | exact ⟨by simp [hp], HB.out⟩
  · have hpi : ¬ (0 : Int) < (n : Int) := by omega
    have hd : (true && decide (0 < n)) = false := by simp [hp]
    have HD := Lib.hid hd
    clear h1 h2 hb hd
    go_wp2_with fail
    go_ret
    first | exact ⟨rfl, HB.out⟩ | exact ⟨by rw [HD.out]; rfl, HB.out⟩ | exact ⟨by simp [hp], HB.out⟩
 | false =>
  obtain rfl := h2 rfl
  clear h1 h2 hb
  go_wp2_with fail
  go_ret
  exact ⟨rfl, HB.out⟩
end Go.Proofs.YtjlliohjeiclaaaGreatDoor
namespace Go.Proofs.YtjlliohjeiclaaaGreatDoor
open Go.RowKit St Pm
attribute [local go_sem] Oper.semAt_some
def sameT (x : Ev) (y : Ev) : Bool := decide (y.2 = x.2)
def grpT : List Ev → List (ByteArray × List Sv)
 | [] => []
 | x :: l => (x.2, x.1 :: (l.takeWhile (sameT x)).map (·.1)) :: grpT (l.dropWhile (sameT x))
termination_by l => l.length
decreasing_by
 have := (List.dropWhile_sublist (l := l) (sameT x)).length_le
 simp; omega
theorem grp_len : ∀ (n : Nat) (l : List Ev), l.length ≤ n → (grpT l).length ≤ l.length
 | _, [], _ => by rw [grpT]; exact Nat.le_refl _
 | 0, _ :: _, h => by simp at h
 | n + 1, x :: l, h => by
  rw [grpT]
  have h1 := (List.dropWhile_sublist (l := l) (sameT x)).length_le
  have h2 := grp_len n (l.dropWhile (sameT x)) (by simp at h; omega)
  simp; omega
structure GrX where
 t : ByteArray
 l : List Sv
 a : Option Addr
 c : Nat
def encGr (x : GrX) : Array Value := #[.string x.t, .slice x.a x.l.length x.c]
def GrX.pr (x : GrX) : ByteArray × List Sv := (x.t, x.l)
def GoesGrp (n gf : Nat) (lb : Array Value) (S : Nat → Prop) (Ex : TypeId → Prop) (L : List (ByteArray × List Sv)) (w : World) : Prop :=
 Iter2 n Tryz.prog gf lb encGr (KeepE (w.heap.size + 2) S Ex) (fun pre x W => (pre ++ [x]).map GrX.pr <+: L ∧ CellsAt W x.a (stsV x.l)) (fun _ xs W2 W' => xs.map GrX.pr = L ∧ W2 = W') (fun pre => pre.map GrX.pr <+: L) w
theorem ts_All (tr : Tr ByteArray) (w : World) : Calls Tryz.prog 26 #[.agg #[.pointer (pa tr)]] w fun e w' =>
 ∃ mb, e = .returned (.func (.func 68) #[] #[.pointer (some ⟨mb, 0, none⟩)]) ∧ w.heap.size ≤ mb ∧ Boxed w' mb 27 (.pointer (pa tr)) ∧ Below w.heap.size w w' := by
 go_enter Tryz.func26, Tryz.ntmps26
 go_wp2_with fail
 go_ret
 exact ⟨w.heap.size, rfl, Nat.le_refl _, Boxed.new w _ _, below_new _ _⟩
def shownT (t : Tr ByteArray) : List Ev := if (items t).all goodT = true then (items t).map decT else []
theorem grp_run {x : Ev} {rest : List Ev} {m : Nat} (h1 : 1 ≤ m) (hm : m ≤ (x :: rest).length) (hs : ∀ y ∈ (x :: rest).take m, y.2 = x.2) (hn : ∀ y, (x :: rest)[m]? = some y → y.2 ≠ x.2) :
 grpT (x :: rest) = (x.2, ((x :: rest).take m).map (·.1)) :: grpT ((x :: rest).drop m) := by
 obtain ⟨q, rfl⟩ : ∃ q, m = q + 1 := ⟨m - 1, by omega⟩
 rw [List.take_succ_cons] at hs ⊢
 rw [List.drop_succ_cons]
 rw [List.getElem?_cons_succ] at hn
 have e1 : rest.takeWhile (sameT x) = rest.take q ∧ rest.dropWhile (sameT x) = rest.drop q := by
  have hall : ∀ y ∈ rest.take q, sameT x y = true := fun y hy => decide_eq_true (hs y (List.mem_cons_of_mem _ hy))
  have hd : rest.drop q = [] ∨ ∃ y r, rest.drop q = y :: r ∧ sameT x y = false := by
   cases e : rest.drop q with
   | nil => exact .inl rfl
   | cons y r =>
    refine .inr ⟨y, r, rfl, decide_eq_false (hn y ?_)⟩
    have := congrArg (fun l : List Ev => l[0]?) e
    simpa using this
  have e : rest = rest.take q ++ rest.drop q := (List.take_append_drop q rest).symm
  constructor
  · conv => lhs; rw [e]
    rw [List.takeWhile_append_of_pos hall]
    rcases hd with h | ⟨y, r, h, hf⟩
    · rw [h]; simp
    · rw [h, List.takeWhile_cons_of_neg (by rw [hf]; simp)]; simp
  · conv => lhs; rw [e]
    rw [List.dropWhile_append_of_pos hall]
    rcases hd with h | ⟨y, r, h, hf⟩
    · rw [h]; rfl
    · rw [h, List.dropWhile_cons_of_neg (by rw [hf]; simp)]
 rw [grpT, e1.1, e1.2]
 rfl
theorem cells_same {A B : World} {g off : Nat} {vs : List Value} (h : CellsAt A (some ⟨g, off, none⟩) vs) (e : B.heap[g]? = A.heap[g]?) : CellsAt B (some ⟨g, off, none⟩) vs := by
 intro i hi
 obtain ⟨b, o, e1, hc⟩ := h i hi
 cases e1
 refine ⟨g, off, rfl, ?_⟩
 unfold World.cell? at hc ⊢
 rw [show B.heap[(⟨g, off + i, none⟩ : Addr).block]? = A.heap[(⟨g, off + i, none⟩ : Addr).block]? from e]
 exact hc
theorem own_block_of {W : World} {base N : Nat} {a : Option Addr} {c : Nat} {L : List Ev} (h : W.ownsRow base 53 6 (.slice a N c) N (elsV L)) (hN : L.length = N) :
 ∃ (gb : Nat) (ob : Obj), (0 < N → W.heap[gb]? = some ob ∧ base ≤ gb ∧ ∀ cs t fr, ob = .cells cs t fr → t = 53) ∧ ∀ V : World, (0 < N → V.heap[gb]? = some ob) → CellsAt V a (elsV L) := by
 have hC := CellsAt.ownN h
 rcases h.2 with ⟨_, h0⟩ | ⟨g, cap, cur, hv, hb, hg, _⟩
 · have : L = [] := List.length_eq_zero_iff.1 (by omega)
   subst this
   exact ⟨0, .deferred none, fun h => by omega, fun V _ => CellsAt.nil _ _⟩
 · cases hv
   refine ⟨g, _, fun _ => ⟨hg, hb, fun cs t fr e => by cases e; rfl⟩, fun V hV => ?_⟩
   by_cases h0 : 0 < N
   · exact cells_same hC ((hV h0).trans hg.symm)
   · have : L = [] := List.length_eq_zero_iff.1 (by omega)
     subst this
     exact CellsAt.nil _ _
def sliceLen : Value → Nat
 | .slice _ n _ => n
 | _ => 0
set_option maxRecDepth 100000 in
set_option maxHeartbeats 8000000 in
theorem ts_All1 (n : Nat) (hn : 1 ≤ n) (tr : Tr ByteArray) (mb : Nat) (w : World) (S : Nat → Prop) (Ex : TypeId → Prop) (hEx : ∀ t, Ex t → t ≠ 53) (hm : Boxed w mb 27 (.pointer (pa tr))) (h : AtS w tr) (hz : sz tr ≤ 100000) (hk : ∀ p ∈ items tr, p.1.size ≤ 70368744177663) (hS : ∀ k, S k → k < w.heap.size) :
 GoesGrp n 68 #[.pointer (some ⟨mb, 0, none⟩)] S Ex (grpT (shownT tr)) w := by
 intro ll J Jx W hW hW2 hJo _ hY h0
 have hJ : ∀ pre A B, J pre A → Below A.heap.size A B → J pre B := fun pre A B h hb => ownFrom_to hJo h hb
 have hmW : Boxed W mb 27 (.pointer (pa tr)) := boxStays hm hW
 have OB := Lib.hid (ts_ownB tr W (h.below hW rfl) hz hk)
 have HM := Lib.hid hmW
 have HW2 := Lib.hid hW2
 have HHW := Lib.hid hW
 have HY := Lib.hid hY
 have HJ := Lib.hid hJ
 have HSS := Lib.hid hS
 have H0 := Lib.hid h0
 have HZ : Hid ((shownT tr).length ≤ 100000) := Lib.hid (by
  unfold shownT
  split
  · rw [List.length_map, sz_items]; exact hz
  · exact Nat.zero_le _)
 have OB2 : Hid (Calls Tryz.prog 60 #[.agg #[.pointer (pa tr)]] W fun e w' => ∃ a c g, e = .returned (.tuple #[.slice a (shownT tr).length c, .bool g]) ∧ Below W.heap.size W w' ∧ w'.ownsRow W.heap.size 53 6 (.slice a (shownT tr).length c) (shownT tr).length (elsV (shownT tr)) ∧ (shownT tr).length ≤ c) := Lib.hid (by
  refine OB.out.mono ?_
  rintro e w' ⟨v, rfl, hb, h1, h2⟩
  unfold shownT
  cases hg : (items tr).all goodT with
  | true =>
   have h3 := h1 hg
   obtain ⟨a, c, rfl, h5, _⟩ := own_slice h3
   rw [if_pos rfl, List.length_map]
   exact ⟨a, c, true, rfl, hb, h3, h5⟩
  | false =>
   obtain rfl := h2 hg
   rw [if_neg (by simp)]
   exact ⟨none, 0, false, rfl, hb, World.ownsRow_nil _ _ _ _, Nat.le_refl _⟩)
 clear OB hW hW2 hY h0 hmW hm h hk hz hS hJo hJ
 generalize shownT tr = L at *
 obtain ⟨N, hN⟩ : ∃ N, L.length = N := ⟨_, rfl⟩
 rw [hN] at OB2 HZ
 have HN := Lib.hid hN
 have ST := Lib.hid stT
 clear hN
 refine callsIn_of_wp Tryz.func68 rfl trivial ?_ rfl
 simp only [Tryz.ntmps68, List.size_toArray, List.length_cons, List.length_nil, Nat.reduceAdd, Nat.reduceSub, Array.replicate_succ, Array.replicate_zero, List.push_toArray, List.append_toArray, List.nil_append, List.cons_append]
 have k0 := cell_of_one HM.out
 gi_wp2
 refine ⟨trivial, ?_⟩
 refine (callsIn_wide.2 OB2.out).mono ?_
 rintro e W3 ⟨a, c, g, rfl, hb, hown, hNc⟩
 obtain ⟨gb, ob, hgb, hcl⟩ := own_block_of hown HN.out
 have GB := Lib.hid hgb
 have CL := Lib.hid hcl
 have HB := Lib.hid hb
 have HJ3 := Lib.hid (HJ.out [] W W3 H0.out hb)
 clear hown hb k0 hgb hcl OB2
 gi_wp2
 gi_loopw [3] (fun lv wr => ∃ (pre : List GrX) (k : Nat) (a' : Option Addr) (c' : Nat), lv = .slice a' (N - k) c' ∧ k ≤ N ∧ N - k ≤ c' ∧ Hid (∀ V : World, (0 < N → V.heap[gb]? = some ob) → CellsAt V a' (elsV (L.drop k))) ∧ Hid (pre.map GrX.pr ++ grpT (L.drop k) = grpT L) ∧ J pre wr ∧ Hid (KeepE (w.heap.size + 2) S Ex W3 wr)) (fun lv _ => sliceLen lv)
 case atStart => exact ⟨[], 0, a, c, rfl, Nat.zero_le _, hNc, Lib.hid (fun V hV => by rw [List.drop_zero]; exact CL.out V hV), Lib.hid (by rw [List.drop_zero]; rfl), HJ3.out, Lib.hid (KeepE.refl _)⟩
 case round =>
  obtain ⟨pre, k, a', c', rfl, hk, hkc, HC, HP, hJr, HK⟩ := hrel
  have hMW : w.heap.size + 2 ≤ W.heap.size := HW2.out
  have GR : Hid (0 < N → wr.heap[gb]? = some ob) := Lib.hid (fun h => by
   obtain ⟨h1, h2, h3⟩ := GB.out h
   exact HK.out.rest gb ob (by omega) h1 (fun cs t fr e hx => hEx t hx (h3 cs t fr e)))
  by_cases hlt : k < N
  · obtain ⟨wo, hwo⟩ : ∃ V, V = wr := ⟨_, rfl⟩
    subst hwo
    have hkD : k < L.length := by rw [HN.out]; exact hlt
    obtain ⟨x, rest, hD⟩ : ∃ x rest, L.drop k = x :: rest := ⟨_, _, List.drop_eq_getElem_cons hkD⟩
    have hDl : (x :: rest).length = N - k := by rw [← hD, List.length_drop, HN.out]
    have hNZ : N ≤ 100000 := HZ.out
    have HDD := Lib.hid hD
    rw [hD] at HC HP
    obtain ⟨ba, oa, rfl, ca⟩ := els_get (HC.out wo GR.out) 0 (by simp)
    have ca' : ElCell wo ba oa x := by simpa using ca
    obtain ⟨p0, p1, p2, p3, p4, p5⟩ := ca'
    have hgt : (0 : Int) < ((N - k : Nat) : Int) := by omega
    have HDL := Lib.hid hDl
    have hdk : decide (0 < N - k) = true := decide_eq_true (by omega)
    clear ca hD hkD
    gi_wp2
    try simp only [hdk]
    clear p0 p1 p2 p3 p4 p5 hdk
    gi_loopw [3, 5] (fun lv sv wr => ∃ (m : Nat) (a2 : Option Addr) (c2 : Nat), lv = .slice a2 (N - k - m) c2 ∧ m ≤ N - k ∧ N - k - m ≤ c2 ∧ Hid (∀ y ∈ (x :: rest).take m, y.2 = x.2) ∧ Hid (∀ V : World, (0 < N → V.heap[gb]? = some ob) → CellsAt V a2 (elsV ((x :: rest).drop m))) ∧ Hid (wr.ownsRow wo.heap.size 43 5 sv m (stsV (((x :: rest).take m).map (·.1)))) ∧ Hid (Below wo.heap.size wo wr)) (fun lv _ _ => sliceLen lv)
    case atStart => exact ⟨0, _, c', rfl, Nat.zero_le _, hkc, Lib.hid (fun y hy => by simp at hy), Lib.hid (fun V hV => by rw [List.drop_zero]; exact HC.out V hV), Lib.hid (World.ownsRow_nil _ _ _ _), Lib.hid (Below.refl _ _)⟩
    case round =>
     obtain ⟨m, a2, c2, rfl, hm, hmc, HS, HC2, HO, HBq⟩ := hrel
     have GRq : Hid (0 < N → wr.heap[gb]? = some ob) := Lib.hid (fun h => (HBq.out.block gb (Array.getElem?_eq_some_iff.1 (GR.out h)).1).trans (GR.out h))
     by_cases hml : m < N - k
     · have hmD : m < (x :: rest).length := by rw [HDL.out]; exact hml
       obtain ⟨y, r2, hY2⟩ : ∃ y r2, (x :: rest).drop m = y :: r2 := ⟨_, _, List.drop_eq_getElem_cons hmD⟩
       have hym : (x :: rest)[m]? = some y := by
        have := congrArg (fun l : List Ev => l[0]?) hY2
        simpa using this
       have HYM := Lib.hid hym
       have HC2' := HC2
       rw [hY2] at HC2'
       obtain ⟨by_, oy, rfl, cy⟩ := els_get (HC2'.out wr GRq.out) 0 (by simp)
       have cy' : ElCell wr by_ oy y := by simpa using cy
       obtain ⟨p0, p1, p2, p3, p4, p5⟩ := cy'
       have hgt2 : (0 : Int) < ((N - k - m : Nat) : Int) := by omega
       clear cy hY2 hym hmD
       by_cases hy : y.2 = x.2
       · have hey : (y.2.toList == x.2.toList) = true := by rw [Pm.eq_iff]; exact decide_eq_true hy
         have hmD : m < (x :: rest).length := by rw [HDL.out]; exact hml
         have hTK : (x :: rest).take (m + 1) = (x :: rest).take m ++ [y] := by
          rw [List.take_add_one, HYM.out]; rfl
         have HS3 : Hid (∀ z ∈ (x :: rest).take (m + 1), z.2 = x.2) := Lib.hid (fun z hz => by
          rw [hTK] at hz
          rcases List.mem_append.1 hz with hz | hz
          · exact HS.out z hz
          · rw [List.mem_singleton.1 hz]; exact hy)
         have HTK := Lib.hid hTK
         have SL := Lib.hid (fun V => run_from (P := Tryz.prog) V 22 53 Tryz.underlying22 6 Tryz.sizeOf53 (some ⟨by_, oy, none⟩) (N - k - m) c2 1 1 rfl (by omega))
         have HC3 : Hid (∀ V : World, (0 < N → V.heap[gb]? = some ob) → CellsAt V (subN (some ⟨by_, oy, none⟩) c2 1 6) (elsV ((x :: rest).drop (m + 1)))) := Lib.hid (fun V hV => by
          have h1 := (HC2.out V hV).subN c2 1 6 (fun e => by rw [elsV_length, List.length_drop, HDL.out]; omega)
          rw [← List.drop_drop, elsV_drop _ 1]
          exact h1)
         generalize subN (some ⟨by_, oy, none⟩) c2 1 6 = a3 at *
         have SRC : Hid (Src Tryz.prog 5 71 (.slice (some ⟨wr.heap.size, 0, none⟩) 1 1) 1 (stL y.1) (wr.alloc (.cells #[.int .i64 y.1.g, .int .i64 y.1.r, .string y.1.l, .int .i64 y.1.n, .int .i64 y.1.i] 43))) := Lib.hid ((CellsAt.new wr 43 (0, 0) (stL y.1)).srcN (size := 5) (n := 1) rfl (by simp [stL, Value.oneCell']) Tryz.underlying71 1 (by decide))
         have HWS : Hid (wo.heap.size ≤ wr.heap.size) := Lib.hid HBq.out.size
         clear hmD hTK hy
         gi_wp2_with (gi_at_builtin; go_must (refine wpListIn_app rfl _ _ 71 71 rfl wo.heap.size 43 _ 5 48 ST.out _ m _ rfl (HO.out.alloc _) _ 1 (stL y.1) rfl SRC.out (by omega) (by omega) (by have := HWS.out; simp; omega) ?_); go_must (intro v6 w6 hown hgr hbel _); have sl := SL.out w6)
         have HO6 := Lib.hid hown
         have HB6 := Lib.hid ((HBq.out.alloc HWS.out _).trans hbel)
         clear hown hgr hbel p0 p1 p2 p3 p4 p5
         gi_wp2
         refine ⟨?rel, ?measure⟩
         case rel => exact ⟨m + 1, a3, c2 - 1, by rw [show N - k - (m + 1) = N - k - m - 1 by omega], by omega, by omega, HS3, HC3, Lib.hid (by rw [HTK.out, List.map_append, stsV_append]; simpa [stsV] using HO6.out), HB6⟩
         case measure => simp [sliceLen]; omega
       · have hey : (y.2.toList == x.2.toList) = false := by rw [Pm.eq_iff]; exact decide_eq_false hy
         have h1m : 1 ≤ m := by
          rcases Nat.eq_zero_or_pos m with h0 | h0
          · subst h0
            have := HYM.out
            simp at this
            exact absurd (by rw [← this]) hy
          · exact h0
         have hnx : ∀ z, (x :: rest)[m]? = some z → z.2 ≠ x.2 := fun z hz => by rw [HYM.out] at hz; cases hz; exact hy
         obtain ⟨as_, cs_, hsv, _⟩ := own_slice HO.out
         subst hsv
         have hgrp := grp_run h1m (by rw [HDL.out]; exact hm) HS.out hnx
         have hlen : (((x :: rest).take m).map (·.1)).length = m := by rw [List.length_map, List.length_take, HDL.out]; omega
         have hX : (pre ++ [(GrX.mk x.2 (((x :: rest).take m).map (·.1)) as_ cs_)]).map GrX.pr <+: grpT L ∧ CellsAt wr as_ (stsV (((x :: rest).take m).map (·.1))) :=
          ⟨⟨grpT ((x :: rest).drop m), by rw [← HP.out, hgrp, List.map_append, List.append_assoc]; rfl⟩, CellsAt.ownN HO.out⟩
         have HX := Lib.hid hX.1
         have HG2 : Hid ((pre ++ [(GrX.mk x.2 (((x :: rest).take m).map (·.1)) as_ cs_)]).map GrX.pr ++ grpT (L.drop (k + m)) = grpT L) := Lib.hid (by rw [← List.drop_drop, HDD.out, ← HP.out, hgrp, List.map_append, List.append_assoc]; rfl)
         have HC3 : Hid (∀ V : World, (0 < N → V.heap[gb]? = some ob) → CellsAt V (some ⟨by_, oy, none⟩) (elsV (L.drop (k + m)))) := Lib.hid (fun V hV => by rw [← List.drop_drop, HDD.out]; exact HC2.out V hV)
         obtain ⟨fn, tmps, assign, body', hyy, hRR⟩ := HY.out pre (GrX.mk x.2 (((x :: rest).take m).map (·.1)) as_ cs_) wr (HJ.out _ _ _ hJr HBq.out) hX
         simp only [encGr] at hyy
         rw [hlen] at hyy
         have HK1 : Hid (KeepE (w.heap.size + 2) S Ex W3 wr) := Lib.hid (HK.out.trans (KeepE.below HBq.out (fun k hk => by have := HK.out.size; have := HB.out.size; have := HSS.out k hk; omega)))
         have RR := Lib.hid hRR
         have hnk : N - k - m = N - (k + m) := by omega
         clear hgrp hlen hX hnx HO hRR
         gi_wp2
         refine RR.out.mono ?_
         rintro e W' (⟨rfl, hJ', hkk⟩ | ⟨rfl, hJx', _⟩)
         · have HJ2 := Lib.hid hJ'
           have HK2 := Lib.hid (HK1.out.trans hkk)
           clear hJ' hkk hyy
           gi_wp2
           refine ⟨⟨_, k + m, (some ⟨by_, oy, none⟩), c2, by first | rfl | rw [hnk], by omega, by omega, HC3, HG2, HJ2.out, HK2⟩, ?_⟩
           simp [sliceLen]; omega
         · have HJ2 := Lib.hid hJx'
           clear hJx' hyy
           gi_wp2
           try rw [Exit.noGoto_ret]
           refine bodyPost_ret (results_none rfl _ _ _) rfl ?_
           exact ⟨⟨_, rfl⟩, .inr ⟨_, HX.out, HJ2.out⟩⟩
     · have h1m : 1 ≤ m := by omega
       have hnx : ∀ z, (x :: rest)[m]? = some z → z.2 ≠ x.2 := fun z hz => by
        rw [List.getElem?_eq_none (by rw [HDL.out]; omega)] at hz; cases hz
       have hgt2 : ¬ (0 : Int) < ((N - k - m : Nat) : Int) := by omega
       obtain ⟨as_, cs_, hsv, _⟩ := own_slice HO.out
       subst hsv
       have hgrp := grp_run h1m (by rw [HDL.out]; exact hm) HS.out hnx
       have hlen : (((x :: rest).take m).map (·.1)).length = m := by rw [List.length_map, List.length_take, HDL.out]; omega
       have hX : (pre ++ [(GrX.mk x.2 (((x :: rest).take m).map (·.1)) as_ cs_)]).map GrX.pr <+: grpT L ∧ CellsAt wr as_ (stsV (((x :: rest).take m).map (·.1))) :=
        ⟨⟨grpT ((x :: rest).drop m), by rw [← HP.out, hgrp, List.map_append, List.append_assoc]; rfl⟩, CellsAt.ownN HO.out⟩
       have HX := Lib.hid hX.1
       have HG2 : Hid ((pre ++ [(GrX.mk x.2 (((x :: rest).take m).map (·.1)) as_ cs_)]).map GrX.pr ++ grpT (L.drop (k + m)) = grpT L) := Lib.hid (by rw [← List.drop_drop, HDD.out, ← HP.out, hgrp, List.map_append, List.append_assoc]; rfl)
       have HC3 : Hid (∀ V : World, (0 < N → V.heap[gb]? = some ob) → CellsAt V a2 (elsV (L.drop (k + m)))) := Lib.hid (fun V hV => by rw [← List.drop_drop, HDD.out]; exact HC2.out V hV)
       obtain ⟨fn, tmps, assign, body', hyy, hRR⟩ := HY.out pre (GrX.mk x.2 (((x :: rest).take m).map (·.1)) as_ cs_) wr (HJ.out _ _ _ hJr HBq.out) hX
       simp only [encGr] at hyy
       rw [hlen] at hyy
       have HK1 : Hid (KeepE (w.heap.size + 2) S Ex W3 wr) := Lib.hid (HK.out.trans (KeepE.below HBq.out (fun k hk => by have := HK.out.size; have := HB.out.size; have := HSS.out k hk; omega)))
       have RR := Lib.hid hRR
       have hnk : N - k - m = N - (k + m) := by omega
       clear hgrp hlen hX hnx HO hRR
       gi_wp2
       refine RR.out.mono ?_
       rintro e W' (⟨rfl, hJ', hkk⟩ | ⟨rfl, hJx', _⟩)
       · have HJ2 := Lib.hid hJ'
         have HK2 := Lib.hid (HK1.out.trans hkk)
         clear hJ' hkk hyy
         gi_wp2
         refine ⟨⟨_, k + m, a2, c2, by first | rfl | rw [hnk], by omega, by omega, HC3, HG2, HJ2.out, HK2⟩, ?_⟩
         simp [sliceLen]; omega
       · have HJ2 := Lib.hid hJx'
         clear hJx' hyy
         gi_wp2
         try rw [Exit.noGoto_ret]
         refine bodyPost_ret (results_none rfl _ _ _) rfl ?_
         exact ⟨⟨_, rfl⟩, .inr ⟨_, HX.out, HJ2.out⟩⟩
  · obtain rfl : k = N := by omega
    have e0 : k - k = 0 := by omega
    rw [e0]
    have HJr := Lib.hid hJr
    gi_wp2
    go_end0
    refine ⟨⟨_, rfl⟩, .inl ⟨pre, wr, HJr.out, ?_, rfl⟩⟩
    have := HP.out
    rw [List.drop_of_length_le (by rw [HN.out]; exact Nat.le_refl _), grpT, List.append_nil] at this
    exact this
end Go.Proofs.YtjlliohjeiclaaaGreatDoor
