/- Words, contracts and walks that the proof stands on (StbP StbQ StbR StbW StbX StbS). -/
import Derived.Shelf.SlSortCmp.Insertion
import Derived.Shelf.SlSortCmp.KitK
import Derived.Sort.Lot0
import Derived.Sort.WalkA
import Derived.Test.YtjlliohjeiclaaaGreatDoorKF1
namespace Go.Proofs.YtjlliohjeiclaaaGreatDoor
open Go.RowKit St Pm Kn
instance : Inhabited Ev := ⟨(⟨0, 0, ⟨#[]⟩, 0, 0⟩, ⟨#[]⟩)⟩
def elC (x y : Ev) : Int := firstC (svC x.1 y.1) (txtC x.2 y.2)
theorem ecO : Ord3 elC := lexO (γ := Ev) (·.1) (·.2) svO txtO
theorem el_zero {x y : Ev} (h : elC x y = 0) : x = y := by
 obtain ⟨h1, h2⟩ := first_zero h
 exact Prod.ext (sv_zero h1) (txt_zero h2)
def RE (x y : Ev) : Prop := elC x y < 0
theorem re_trans {x y z : Ev} (h : RE x y) (k : RE y z) : RE x z := by
 unfold RE at *
 have h1 := ecO.trans x y z (by omega) (by omega)
 rcases Int.lt_or_eq_of_le h1 with h2 | h2
 · exact h2
 · have h3 := ecO.zero (x := x) (y := y) (z := z) (show elC x y ≤ 0 by omega) (show elC y z ≤ 0 by omega) h2
   omega
theorem re_irrefl (x : Ev) : ¬ RE x x := by unfold RE; rw [ecO.self]; omega
theorem re_asymm {x y : Ev} (h : RE x y) : ¬ RE y x := fun k => re_irrefl x (re_trans h k)
theorem re_tri {x y : Ev} (h : x ≠ y) : RE x y ∨ RE y x := by
 unfold RE
 have h1 := ecO.neg x y
 have h2 : elC x y ≠ 0 := fun e => h (el_zero e)
 omega
theorem aheadV_re (x y : Ev) : aheadV x y = true ↔ RE y x := by
 unfold aheadV RE elC firstC
 simp only [Bool.or_eq_true, Bool.and_eq_true, decide_eq_true_eq]
 constructor
 · rintro (h | ⟨h1, h2⟩)
   · rw [if_neg (by omega)]; exact h
   · rw [if_pos (by rw [h1, svO.self])]
     unfold txtC
     rw [if_pos h2]; omega
 · by_cases h : svC y.1 x.1 = 0
   · rw [if_pos h]
     intro h2
     refine .inr ⟨sv_zero h, ?_⟩
     unfold txtC at h2
     by_cases h3 : klt y.2 x.2 = true
     · exact h3
     · rw [if_neg h3] at h2
       split at h2 <;> omega
   · rw [if_neg h]
     exact .inl
abbrev Up (l : List Ev) : Prop := l.Pairwise RE
theorem up_nodup {l : List Ev} (h : Up l) : l.Nodup := h.imp fun {a b} hab e => by subst e; exact re_irrefl _ hab
theorem up_ext : ∀ {l m : List Ev}, Up l → Up m → (∀ x, x ∈ l ↔ x ∈ m) → l = m
 | [], [], _, _, _ => rfl
 | [], y :: m, _, _, h => by have := (h y).2 List.mem_cons_self; cases this
 | x :: l, [], _, _, h => by have := (h x).1 List.mem_cons_self; cases this
 | x :: l, y :: m, hl, hm, h => by
  have hl' := List.pairwise_cons.1 hl
  have hm' := List.pairwise_cons.1 hm
  have e : x = y := by
   rcases List.mem_cons.1 ((h x).1 List.mem_cons_self) with e | hx
   · exact e
   · rcases List.mem_cons.1 ((h y).2 List.mem_cons_self) with e | hy
     · exact e.symm
     · exact absurd (hl'.1 y hy) (re_asymm (hm'.1 x hx))
  subst e
  congr 1
  refine up_ext hl'.2 hm'.2 fun z => ?_
  constructor
  · intro hz
    rcases List.mem_cons.1 ((h z).1 (List.mem_cons_of_mem _ hz)) with e | h2
    · subst e; exact absurd (hl'.1 z hz) (re_irrefl _)
    · exact h2
  · intro hz
    rcases List.mem_cons.1 ((h z).2 (List.mem_cons_of_mem _ hz)) with e | h2
    · subst e; exact absurd (hm'.1 z hz) (re_irrefl _)
    · exact h2
theorem insV_up {x : Ev} {l : List Ev} (h : Up l) (hx : x ∉ l) : Up (insV x l) := by
 unfold insV
 have h1 : ∀ (l : List Ev), Up l → x ∉ l → (∀ y ∈ l.dropWhile (aheadV x), RE x y) := by
  intro l
  induction l with
  | nil => intro _ _ y hy; cases hy
  | cons z l ih =>
   intro hl hz y hy
   have hl' := List.pairwise_cons.1 hl
   rw [List.dropWhile_cons] at hy
   by_cases ha : aheadV x z = true
   · rw [if_pos ha] at hy
     exact ih hl'.2 (fun e => hz (List.mem_cons_of_mem _ e)) y hy
   · rw [if_neg ha] at hy
     have hxz : RE x z := by
      rcases re_tri (x := x) (y := z) (fun e => hz (by rw [e]; exact List.mem_cons_self)) with h | h
      · exact h
      · exact absurd ((aheadV_re x z).2 h) ha
     rcases List.mem_cons.1 hy with e | hy
     · rw [e]; exact hxz
     · exact re_trans hxz (hl'.1 y hy)
 have h2 : ∀ y ∈ l.takeWhile (aheadV x), RE y x := fun y hy => (aheadV_re x y).1 (by
  have := List.all_takeWhile (l := l) (p := aheadV x)
  exact List.all_eq_true.1 this y hy)
 have h3 := h1 l h hx
 have h4 : Up (l.takeWhile (aheadV x) ++ l.dropWhile (aheadV x)) := by rw [List.takeWhile_append_dropWhile]; exact h
 have h5 := List.pairwise_append.1 h4
 refine List.pairwise_append.2 ⟨h5.1, List.pairwise_cons.2 ⟨h3, h5.2.1⟩, fun a ha b hb => ?_⟩
 rcases List.mem_cons.1 hb with rfl | hb
 · exact h2 a ha
 · exact h5.2.2 a ha b hb
theorem sortV_upN : ∀ (n : Nat) (l : List Ev), l.length = n → l.Nodup → Up (sortV l)
 | 0, l, hn, _ => by
  obtain rfl := List.length_eq_zero_iff.1 hn
  exact List.Pairwise.nil
 | n + 1, l, hn, h => by
  rcases List.eq_nil_or_concat l with rfl | ⟨l0, x, rfl⟩
  · exact List.Pairwise.nil
  · rw [List.concat_eq_append] at h hn ⊢
    rw [sortV_snoc]
    have h1 := List.nodup_append.1 h
    exact insV_up (sortV_upN n l0 (by simpa using hn) h1.1) (fun e => h1.2.2 x (sortV_mem.1 e) x (by simp) rfl)
theorem sortV_up {l : List Ev} (h : l.Nodup) : Up (sortV l) := sortV_upN _ l rfl h
theorem sortV_uniq {l m : List Ev} (hl : l.Nodup) (hm : Up m) (h : ∀ x, x ∈ m ↔ x ∈ l) : m = sortV l :=
 up_ext hm (sortV_up hl) fun x => by rw [h x, sortV_mem]
theorem up_get {l : List Ev} (h : Up l) {i j : Nat} (hi : i < j) (hj : j < l.length) : RE (l[i]'(by omega)) l[j] := List.pairwise_iff_getElem.1 h i j (by omega) hj hi
theorem mem_take_get {l : List Ev} {n : Nat} {x : Ev} (h : x ∈ l.take n) : ∃ i, ∃ hi : i < l.length, i < n ∧ l[i] = x := by
 obtain ⟨i, hi, rfl⟩ := List.mem_iff_getElem.1 h
 have := List.length_take (i := n) (l := l)
 exact ⟨i, by omega, by omega, by simp⟩
theorem mem_drop_get {l : List Ev} {n : Nat} {x : Ev} (h : x ∈ l.drop n) : ∃ i, ∃ hi : i < l.length, n ≤ i ∧ l[i] = x := by
 obtain ⟨i, hi, rfl⟩ := List.mem_iff_getElem.1 h
 have := List.length_drop (i := n) (l := l)
 exact ⟨n + i, by omega, by omega, by simp⟩
structure Seek (A B : List Ev) (h s r : Nat) : Prop where
 le : s ≤ r
 hr : r ≤ A.length
 hrh : r ≤ h
 lo : h ≤ s + B.length
 hi : r = A.length ∨ r = h ∨ ∃ (ha : r < A.length) (hb : h - 1 - r < B.length), r < h ∧ RE B[h - 1 - r] A[r]
 below : s = 0 ∨ h = s + B.length ∨ ∃ (ha : s - 1 < A.length) (hb : h - s < B.length), 0 < s ∧ s ≤ h ∧ ¬ RE B[h - s] A[s - 1]
theorem Seek.cut {A B : List Ev} {h s : Nat} (k : Seek A B h s s) (hA : Up A) (hB : Up B) (hd : ∀ x ∈ A, ∀ y ∈ B, x ≠ y) :
 (∀ x ∈ A.take s, ∀ y ∈ B.drop (h - s), RE x y) ∧ (∀ y ∈ B.take (h - s), ∀ x ∈ A.drop s, RE y x) := by
 constructor
 · intro x hx y hy
   obtain ⟨i, hi, h1, rfl⟩ := mem_take_get hx
   obtain ⟨j, hj, h2, rfl⟩ := mem_drop_get hy
   rcases k.below with h3 | h3 | ⟨ha, hb, h0, h4, h5⟩
   · omega
   · omega
   · have h6 : RE A[s - 1] B[h - s] := (re_tri (hd _ (List.getElem_mem ha) _ (List.getElem_mem hb))).elim id fun e => absurd e h5
     have h7 : RE A[i] B[h - s] := by
      rcases Nat.lt_or_ge i (s - 1) with h8 | h8
      · exact re_trans (up_get hA h8 ha) h6
      · have : i = s - 1 := by omega
        subst this; exact h6
     rcases Nat.lt_or_ge (h - s) j with h8 | h8
     · exact re_trans h7 (up_get hB h8 hj)
     · have : j = h - s := by omega
       subst this; exact h7
 · intro y hy x hx
   obtain ⟨j, hj, h1, rfl⟩ := mem_take_get hy
   obtain ⟨i, hi, h2, rfl⟩ := mem_drop_get hx
   rcases k.hi with h3 | h3 | ⟨ha, hb, h4, h5⟩
   · omega
   · omega
   · have h7 : RE B[j] A[s] := by
      rcases Nat.lt_or_ge j (h - 1 - s) with h8 | h8
      · exact re_trans (up_get hB h8 hb) h5
      · have : j = h - 1 - s := by omega
        subst this; exact h5
     rcases Nat.lt_or_ge s i with h8 | h8
     · exact re_trans h7 (up_get hA h8 hi)
     · have : i = s := by omega
       subst this; exact h7
theorem merge_halves {A1 A2 B1 B2 : List Ev} (hA : Up (A1 ++ A2)) (hB : Up (B1 ++ B2)) (hd : ((A1 ++ A2) ++ (B1 ++ B2)).Nodup) (h1 : ∀ x ∈ A1, ∀ y ∈ B2, RE x y) (h2 : ∀ y ∈ B1, ∀ x ∈ A2, RE y x) :
 sortV (A1 ++ B1) ++ sortV (A2 ++ B2) = sortV ((A1 ++ A2) ++ (B1 ++ B2)) := by
 have a := List.pairwise_append.1 hA
 have b := List.pairwise_append.1 hB
 have n := List.nodup_append.1 hd
 have nA := List.nodup_append.1 n.1
 have nB := List.nodup_append.1 n.2.1
 have d1 : (A1 ++ B1).Nodup := List.nodup_append.2 ⟨nA.1, nB.1, fun x hx y hy => n.2.2 x (List.mem_append_left _ hx) y (List.mem_append_left _ hy)⟩
 have d2 : (A2 ++ B2).Nodup := List.nodup_append.2 ⟨nA.2.1, nB.2.1, fun x hx y hy => n.2.2 x (List.mem_append_right _ hx) y (List.mem_append_right _ hy)⟩
 refine sortV_uniq hd (List.pairwise_append.2 ⟨sortV_up d1, sortV_up d2, fun x hx y hy => ?_⟩) fun x => ?_
 · rcases List.mem_append.1 (sortV_mem.1 hx) with hx | hx <;> rcases List.mem_append.1 (sortV_mem.1 hy) with hy | hy
   · exact a.2.2 x hx y hy
   · exact h1 x hx y hy
   · exact h2 x hx y hy
   · exact b.2.2 x hx y hy
 · simp only [List.mem_append, sortV_mem]
   constructor
   · rintro ((h | h) | (h | h)) <;> simp [h]
   · rintro ((h | h) | (h | h)) <;> simp [h]
theorem sortV_done {l : List Ev} (h : Up l) : sortV l = l := (sortV_uniq (up_nodup h) h fun _ => Iff.rfl).symm
theorem merge_one {x : Ev} {B : List Ev} {j : Nat} (hB : Up B) (h1 : ∀ y ∈ B.take j, RE y x) (h2 : ∀ y ∈ B.drop j, RE x y) : B.take j ++ x :: B.drop j = sortV (x :: B) := by
 have hb : Up (B.take j ++ B.drop j) := by rw [List.take_append_drop]; exact hB
 have b := List.pairwise_append.1 hb
 have hx : x ∉ B := fun e => by
  rw [← List.take_append_drop j B] at e
  rcases List.mem_append.1 e with e | e
  · exact re_irrefl _ (h1 _ e)
  · exact re_irrefl _ (h2 _ e)
 refine sortV_uniq (List.nodup_cons.2 ⟨hx, up_nodup hB⟩) (List.pairwise_append.2 ⟨b.1, List.pairwise_cons.2 ⟨h2, b.2.1⟩, fun a ha c hc => ?_⟩) fun z => ?_
 · rcases List.mem_cons.1 hc with rfl | hc
   · exact h1 a ha
   · exact b.2.2 a ha c hc
 · conv => rhs; rw [← List.take_append_drop j B]
   simp only [List.mem_append, List.mem_cons]
   constructor
   · rintro (h | h | h) <;> simp [h]
   · rintro (h | h | h) <;> simp [h]
theorem sortV_perm {l m : List Ev} (hl : l.Nodup) (hm : m.Nodup) (h : ∀ x, x ∈ l ↔ x ∈ m) : sortV l = sortV m :=
 sortV_uniq hm (sortV_up hl) fun x => by rw [sortV_mem, h x]
theorem swp_lists (P M S : List Ev) (x y : Ev) : Sort.swp (P ++ x :: (M ++ y :: S)).toArray P.length (P.length + 1 + M.length) = (P ++ y :: (M ++ x :: S)).toArray := by
 have e1 : (P ++ x :: (M ++ y :: S)).toArray[P.length]! = x := by
  rw [getElem!_pos _ _ (by simp)]
  simp
 have e2 : (P ++ x :: (M ++ y :: S)).toArray[P.length + 1 + M.length]! = y := by
  rw [getElem!_pos _ _ (by simp; omega)]
  simp only [List.getElem_toArray]
  rw [List.getElem_append_right (by omega)]
  have : P.length + 1 + M.length - P.length = M.length + 1 := by omega
  simp only [this, List.getElem_cons_succ]
  simp
 unfold Sort.swp
 rw [e1, e2]
 apply Array.ext'
 rw [Array.toList_setIfInBounds, Array.toList_setIfInBounds]
 simp only [List.toList_toArray]
 rw [List.set_append_right _ _ (by omega), Nat.sub_self, List.set_cons_zero, List.set_append_right _ _ (by omega)]
 have : P.length + 1 + M.length - P.length = M.length + 1 := by omega
 rw [this, List.set_cons_succ, List.set_append_right _ _ (by omega), Nat.sub_self, List.set_cons_zero]
end Go.Proofs.YtjlliohjeiclaaaGreatDoor
namespace Go.Proofs.YtjlliohjeiclaaaGreatDoor
open Go.RowKit St Pm Kn
theorem insV_cons (x z : Ev) (l : List Ev) : insV x (z :: l) = if aheadV x z = true then z :: insV x l else x :: z :: l := by
 unfold insV
 rw [List.takeWhile_cons, List.dropWhile_cons]
 split <;> rfl
theorem insV_last {x y : Ev} (h : aheadV x y = false) : ∀ T : List Ev, insV x (T ++ [y]) = insV x T ++ [y]
 | [] => by rw [List.nil_append, insV_cons, h]; rfl
 | z :: T => by
  have ih := insV_last h T
  rw [List.cons_append, insV_cons, insV_cons]
  split
  · rw [ih]; rfl
  · rfl
theorem insV_all {x : Ev} : ∀ {T : List Ev}, (∀ y ∈ T, aheadV x y = true) → insV x T = T ++ [x]
 | [], _ => rfl
 | z :: T, h => by
  rw [insV_cons, if_pos (h z List.mem_cons_self), insV_all fun y hy => h y (List.mem_cons_of_mem _ hy)]
  rfl
theorem arr_at (P S : List Ev) (x : Ev) (n : Nat) (h : n = P.length) : (P ++ x :: S).toArray[n]! = x := by
 subst h
 rw [getElem!_pos _ _ (by simp)]
 simp
theorem inn_lists (P S : List Ev) (x : Ev) : ∀ (n : Nat) (T1 T2 : List Ev), T1.length = n → Up T1 → x ∉ T1 → (∀ y ∈ T1, evC x y < 0 ↔ RE x y) →
 Sort.insInner (ltOf evC) P.length (P.length + n) (P ++ (T1 ++ x :: (T2 ++ S))).toArray = (P ++ (insV x T1 ++ (T2 ++ S))).toArray
 | 0, T1, T2, hn, _, _, _ => by
  obtain rfl := List.length_eq_zero_iff.1 hn
  rw [insInner_stop _ _ _ _ (.inl (by omega))]
  rfl
 | n + 1, T1, T2, hn, hU, hx, hc => by
  rcases List.eq_nil_or_concat T1 with rfl | ⟨T0, y, rfl⟩
  · simp at hn
  · rw [List.concat_eq_append] at *
    have hn0 : T0.length = n := by simpa using hn
    have hU2 := List.pairwise_append.1 hU
    have hxy : x ≠ y := fun e => hx (by simp [e])
    have e1 : (P ++ ((T0 ++ [y]) ++ x :: (T2 ++ S))).toArray = ((P ++ T0) ++ y :: ([] ++ x :: (T2 ++ S))).toArray := by simp
    have e2 : (P ++ ((T0 ++ [y]) ++ x :: (T2 ++ S))).toArray = ((P ++ (T0 ++ [y])) ++ x :: (T2 ++ S)).toArray := by simp
    have dx : (P ++ ((T0 ++ [y]) ++ x :: (T2 ++ S))).toArray[P.length + (n + 1)]! = x := by rw [e2]; exact arr_at _ _ _ _ (by simp; omega)
    have dy : (P ++ ((T0 ++ [y]) ++ x :: (T2 ++ S))).toArray[P.length + (n + 1) - 1]! = y := by rw [e1]; exact arr_at _ _ _ _ (by simp; omega)
    by_cases hr : RE x y
    · have hlt : ltOf evC x y = true := decide_eq_true ((hc y (by simp)).2 hr)
      rw [insInner_go _ _ _ _ (by omega) (by rw [dx, dy]; exact hlt)]
      have hs : Sort.swp (P ++ ((T0 ++ [y]) ++ x :: (T2 ++ S))).toArray (P.length + (n + 1)) (P.length + (n + 1) - 1) = ((P ++ T0) ++ x :: ([] ++ y :: (T2 ++ S))).toArray := by
       have h3 := swp_lists (P ++ T0) [] (T2 ++ S) y x
       have e3 : (P ++ T0).length = P.length + (n + 1) - 1 := by simp; omega
       have e4 : (P ++ T0).length + 1 + ([] : List Ev).length = P.length + (n + 1) := by simp; omega
       rw [e4, e3, ← e1] at h3
       rw [← h3]
       unfold Sort.swp
       rw [dx, dy]
       apply Array.ext'
       rw [Array.toList_setIfInBounds, Array.toList_setIfInBounds, Array.toList_setIfInBounds, Array.toList_setIfInBounds]
       exact List.set_comm _ _ (by omega)
      rw [hs]
      have e5 : P.length + (n + 1) - 1 = P.length + n := by omega
      have e6 : ((P ++ T0) ++ x :: ([] ++ y :: (T2 ++ S))).toArray = (P ++ (T0 ++ x :: ((y :: T2) ++ S))).toArray := by simp
      rw [e5, e6, inn_lists P S x n T0 (y :: T2) hn0 hU2.1 (fun e => hx (by simp [e])) (fun z hz => hc z (by simp [hz]))]
      rw [insV_last (by cases h : aheadV x y with | false => rfl | true => exact absurd hr (re_asymm ((aheadV_re x y).1 h)))]
      simp
    · have hyx : RE y x := (re_tri hxy).elim (fun h => absurd h hr) id
      have hlt : ltOf evC x y = false := decide_eq_false fun h => hr ((hc y (by simp)).1 h)
      rw [insInner_stop _ _ _ _ (.inr (by rw [dx, dy]; exact hlt))]
      rw [insV_all fun z hz => (aheadV_re x z).2 (by
       rcases List.mem_append.1 hz with hz | hz
       · exact re_trans (hU2.2.2 z hz y (by simp)) hyx
       · rw [List.mem_singleton.1 hz]; exact hyx)]
      simp
theorem out_lists (P S : List Ev) : ∀ (n : Nat) (T R : List Ev), R.length = n → (T ++ R).Nodup → (T ++ R).Pairwise (fun y x => evC x y < 0 ↔ RE x y) →
 Sort.insOuter (ltOf evC) P.length (P.length + T.length + n) (P.length + T.length) (P ++ (sortV T ++ (R ++ S))).toArray = (P ++ (sortV (T ++ R) ++ S)).toArray
 | 0, T, R, hn, _, _ => by
  obtain rfl := List.length_eq_zero_iff.1 hn
  rw [insOuter_stop _ _ _ _ _ (by omega)]
  simp
 | n + 1, T, [], hn, _, _ => by simp at hn
 | n + 1, T, x :: R, hn, hd, hc => by
  have hn0 : R.length = n := by simpa using hn
  have hd2 := List.nodup_append.1 hd
  have hc2 := List.pairwise_append.1 hc
  rw [insOuter_go _ _ _ _ _ (by omega)]
  have h1 := inn_lists P (R ++ S) x (sortV T).length (sortV T) [] rfl (sortV_up hd2.1) (fun e => hd2.2.2 x (sortV_mem.1 e) x (by simp) rfl) (fun y hy => hc2.2.2 y (sortV_mem.1 hy) x (by simp))
  rw [sortV_length] at h1
  simp only [List.nil_append] at h1
  have e1 : (x :: R) ++ S = x :: (R ++ S) := rfl
  rw [e1, h1, ← sortV_snoc]
  have h2 := out_lists P S n (T ++ [x]) R hn0 (by simpa using hd) (by simpa using hc)
  have e2 : P.length + (T ++ [x]).length + n = P.length + T.length + (n + 1) := by simp; omega
  have e3 : P.length + (T ++ [x]).length = P.length + T.length + 1 := by simp; omega
  rw [e2, e3] at h2
  rw [h2]
  simp
theorem sort_lists (P L S : List Ev) (hd : L.Nodup) (hc : L.Pairwise (fun y x => evC x y < 0 ↔ RE x y)) :
 Sort.insertionSort (ltOf evC) (P ++ (L ++ S)).toArray P.length (P.length + L.length) = (P ++ (sortV L ++ S)).toArray := by
 unfold Sort.insertionSort
 cases L with
 | nil =>
  rw [insOuter_stop _ _ _ _ _ (by simp)]
  rfl
 | cons x R =>
  have h := out_lists P S R.length [x] R rfl hd hc
  have e1 : P.length + [x].length + R.length = P.length + (x :: R).length := by simp; omega
  rw [e1] at h
  exact h
end Go.Proofs.YtjlliohjeiclaaaGreatDoor
namespace Go.Proofs.YtjlliohjeiclaaaGreatDoor
open Go.RowKit St Pm Kn
def full (bs : Nat) (l : List Ev) : List Ev := if h : l = [] ∨ bs = 0 then [] else sortV (l.take bs) ++ full bs (l.drop bs)
termination_by l.length
decreasing_by
 have : l.length ≠ 0 := fun e => h (.inl (List.length_eq_zero_iff.1 e))
 rw [List.length_drop]; omega
theorem full_nil (bs : Nat) : full bs [] = [] := by rw [full, dif_pos (.inl rfl)]
theorem full_step {bs : Nat} {X : List Ev} (R : List Ev) (hX : X.length = bs) (hb : 0 < bs) : full bs (X ++ R) = sortV X ++ full bs R := by
 rw [full, dif_neg]
 · rw [List.take_append_of_le_length (by omega), List.take_of_length_le (by omega), List.drop_append_of_le_length (by omega), List.drop_of_length_le (by omega)]
   rfl
 · rintro (h | h)
   · obtain rfl : X = [] := (List.append_eq_nil_iff.1 h).1
     simp at hX
     omega
   · omega
theorem full_last {bs : Nat} {R : List Ev} (h : R.length ≤ bs) : full bs R = sortV R := by
 cases R with
 | nil => rw [full_nil]; rfl
 | cons x R =>
  rw [full, dif_neg]
  · rw [List.take_of_length_le h, List.drop_of_length_le h, full_nil, List.append_nil]
  · rintro (h2 | h2)
    · cases h2
    · simp at h; omega
theorem full_len {bs : Nat} (hb : 0 < bs) : ∀ (n : Nat) (l : List Ev), l.length ≤ n → (full bs l).length = l.length
 | 0, l, h => by
  obtain rfl : l = [] := List.length_eq_zero_iff.1 (by omega)
  rw [full_nil]
 | n + 1, l, h => by
  rw [full]
  split
  · rename_i h1
    rcases h1 with rfl | h1
    · rfl
    · omega
  · rename_i h1
    have h0 : l.length ≠ 0 := fun e => h1 (.inl (List.length_eq_zero_iff.1 e))
    have ih := full_len hb n (l.drop bs) (by rw [List.length_drop]; omega)
    rw [List.length_append, sortV_length, ih, List.length_take, List.length_drop]
    omega
theorem swr_step (P M S X Y : List Ev) (n i : Nat) (hX : X.length = n) (hY : Y.length = n) (hi : i < n) :
 Sort.swp (P ++ ((Y.take i ++ X.drop i) ++ (M ++ ((X.take i ++ Y.drop i) ++ S)))).toArray (P.length + i) (P.length + n + M.length + i) =
  (P ++ ((Y.take (i + 1) ++ X.drop (i + 1)) ++ (M ++ ((X.take (i + 1) ++ Y.drop (i + 1)) ++ S)))).toArray := by
 have hx : i < X.length := by omega
 have hy : i < Y.length := by omega
 have h := swp_lists (P ++ Y.take i) (X.drop (i + 1) ++ (M ++ X.take i)) (Y.drop (i + 1) ++ S) X[i] Y[i]
 have e1 : (P ++ Y.take i).length = P.length + i := by simp; omega
 have e2 : (P ++ Y.take i).length + 1 + (X.drop (i + 1) ++ (M ++ X.take i)).length = P.length + n + M.length + i := by simp; omega
 rw [e2, e1] at h
 rw [List.drop_eq_getElem_cons hx, List.drop_eq_getElem_cons hy, List.take_succ_eq_append_getElem hx, List.take_succ_eq_append_getElem hy]
 simp only [List.append_assoc, List.cons_append, List.nil_append] at h ⊢
 exact h
theorem arr_app (P S : List Ev) (A : List Ev) (i n : Nat) (hi : i < A.length) (h : n = P.length + i) : (P ++ (A ++ S)).toArray[n]! = A[i] := by
 have e : P ++ (A ++ S) = (P ++ A.take i) ++ A[i] :: (A.drop (i + 1) ++ S) := by
  have hA : A.take i ++ A[i] :: A.drop (i + 1) = A := by rw [← List.drop_eq_getElem_cons hi, List.take_append_drop]
  calc P ++ (A ++ S) = P ++ ((A.take i ++ A[i] :: A.drop (i + 1)) ++ S) := by rw [hA]
   _ = _ := by simp only [List.append_assoc, List.cons_append]
 rw [e]
 exact arr_at _ _ _ _ (by simp; omega)
end Go.Proofs.YtjlliohjeiclaaaGreatDoor
namespace Go.Proofs.YtjlliohjeiclaaaGreatDoor
open Go.Shelf Go.RowKit Go.Lib Go.Sort Go.Proofs St Pm Kn
structure StL (P : Program) (k : Nat) : Prop where
 mixed : P.follows .mixedOrders = true
 fW : P.funcs[205]? = some Tryz.f205
 fR : P.funcs[179]? = some Tryz.f179
 fM : P.funcs[139]? = some Tryz.f139
 t0 : P.underlying 0 = some (TypeDesc.tuple #[])
 a0 : ∀ w, (isAgg 0).run P w = .ok false w
 z0 : ∀ w, (Go.sizeOf 0).run P w = .ok 1 w
 v0 : ∀ w, (zeroValue 0).run P w = .ok (Value.tuple #[]) w
 t3 : P.underlying 3 = some (TypeDesc.int IntKind.i64)
 a3 : ∀ w, (isAgg 3).run P w = .ok false w
 z3 : ∀ w, (Go.sizeOf 3).run P w = .ok 1 w
 v3 : ∀ w, (zeroValue 3).run P w = .ok (Value.int IntKind.i64 0) w
 t4 : P.underlying 4 = some (TypeDesc.bool)
 a4 : ∀ w, (isAgg 4).run P w = .ok false w
 z4 : ∀ w, (Go.sizeOf 4).run P w = .ok 1 w
 v4 : ∀ w, (zeroValue 4).run P w = .ok (Value.bool false) w
 t22 : P.underlying 22 = some (TypeDesc.slice 53)
 a22 : ∀ w, (isAgg 22).run P w = .ok false w
 z22 : ∀ w, (Go.sizeOf 22).run P w = .ok 1 w
 v22 : ∀ w, (zeroValue 22).run P w = .ok (Value.slice none 0 0) w
 t25 : P.underlying 120 = some (TypeDesc.func #[53, 53] #[3] false)
 a25 : ∀ w, (isAgg 120).run P w = .ok false w
 z25 : ∀ w, (Go.sizeOf 120).run P w = .ok 1 w
 v25 : ∀ w, (zeroValue 120).run P w = .ok (Value.nilFunc) w
 t39 : P.underlying 186 = some (TypeDesc.int IntKind.u64)
 a39 : ∀ w, (isAgg 186).run P w = .ok false w
 z39 : ∀ w, (Go.sizeOf 186).run P w = .ok 1 w
 v39 : ∀ w, (zeroValue 186).run P w = .ok (Value.int IntKind.u64 0) w
 aE : ∀ w, (isAgg 53).run P w = .ok true w
 zE : ∀ w, (Go.sizeOf 53).run P w = .ok k w
variable {P : Program} {α : Type} [Inhabited α]
def swR (d : Array α) (a b : Nat) : Nat → Array α
 | 0 => d
 | i + 1 => swp (swR d a b i) (a + i) (b + i)
theorem size_swR (d : Array α) (a b : Nat) : ∀ n, (swR d a b n).size = d.size
 | 0 => rfl
 | n + 1 => by rw [swR, size_swp, size_swR d a b n]
set_option maxHeartbeats 4000000 in
set_option maxRecDepth 1000000 in
theorem sw_swapRange {k : Nat} (L : StL P k) (enc : α → List Value) (g : Nat) (cb : Array Value) (blk off cap a b n : Nat) (d0 d : Array α) (w0 w : World)
 (R : RowK enc k w0 blk off d0) (hs : d0.size = d.size) (S : SWK enc k w0 blk off d w) (ha : a + n ≤ d.size) (hb : b + n ≤ d.size) (hsz : d.size < 4611686018427387904) :
 Calls P 205 #[.slice (some ⟨blk, off, none⟩) d.size cap, .int .i64 a, .int .i64 b, .int .i64 n, .func (.func g) #[] cb] w fun e w' => e = .returned (.tuple #[]) ∧ SWK enc k w0 blk off (swR d a b n) w' := by
 have mixed := L.mixed; have t0 := L.t0; have a0 := L.a0; have z0 := L.z0; have v0 := L.v0; have t3 := L.t3; have a3 := L.a3; have z3 := L.z3; have v3 := L.v3; have t4 := L.t4; have a4 := L.a4; have z4 := L.z4; have v4 := L.v4; have t22 := L.t22; have a22 := L.a22; have z22 := L.z22; have v22 := L.v22; have t25 := L.t25; have a25 := L.a25; have z25 := L.z25; have v25 := L.v25; have aE := L.aE; have zE := L.zE
 have S0 : Aside (SWK enc k w0 blk off d w) := S
 have FG := L.fW
 clear S
 go_enter FG, Tryz.ntmps205
 go_wp2
 go_loopg [10] n (fun kx s10 wr => ∃ i : Nat, s10 = .int .i64 (i : Int) ∧ i ≤ n ∧ n - i ≤ kx ∧ Aside (SWK enc k w0 blk off (swR d a b i) wr))
 case atStart => exact ⟨0, rfl, Nat.zero_le _, Nat.le_refl _, S0⟩
 case round =>
  clear S0
  obtain ⟨i, rfl, hin, hkx, S1⟩ := hrel
  by_cases hlt : i < n
  · have hltz : (i : Int) < (n : Int) := by omega
    have hds : (swR d a b i).size = d.size := size_swR d a b i
    obtain ⟨dk, hdk⟩ : ∃ x, swR d a b i = x := ⟨_, rfl⟩
    have HDK : Aside (swR d a b i = dk) := hdk
    rw [hdk] at S1 hds
    clear hdk
    go_wp2_with fail
    have ea : ((a : Int) + (i : Int)).toNat = a + i := by omega
    have pa : (0 : Int) ≤ (a : Int) + (i : Int) := by omega
    have ba : (a : Int) + (i : Int) < (d.size : Int) := by omega
    have ra : IntKind.i64.wrap ((a : Int) + (i : Int)) = (a : Int) + (i : Int) := by rw [IntKind.wrap_i64]; omega
    have eb : ((b : Int) + (i : Int)).toNat = b + i := by omega
    have pb : (0 : Int) ≤ (b : Int) + (i : Int) := by omega
    have bb : (b : Int) + (i : Int) < (d.size : Int) := by omega
    have rb : IntKind.i64.wrap ((b : Int) + (i : Int)) = (b : Int) + (i : Int) := by rw [IntKind.wrap_i64]; omega
    have S2 : Aside (SWK enc k w0 blk off (swp dk (a + i) (b + i)) ((wr.drew.setCells blk (off + (a + i) * k) (enc dk[b + i]!)).setCells blk (off + (b + i) * k) (enc dk[a + i]!))) := S1.out.swapped R (a + i) (b + i) (by omega) (by omega)
    have la := S1.out.ld1 R (by omega) P (a + i) (by omega)
    have lb := S1.out.ld1 R (by omega) P (b + i) (by omega)
    have sa := S1.out.st1 R (by omega) P (a + i) (by omega) dk[b + i]!
    have sb := S1.out.st2 R (by omega) P (a + i) (b + i) (by omega) (by omega) dk[b + i]! dk[a + i]!
    have na : (enc dk[a + i]!).length = k := R.hk _
    have nb : (enc dk[b + i]!).length = k := R.hk _
    generalize enc dk[a + i]! = cI at S2 la sb na
    generalize enc dk[b + i]! = cJ at S2 lb sa sb nb
    clear S1
    go_wp2_with fail
    go_big_region_o
    clear la lb sa sb
    generalize (wr.drew.setCells blk (off + (a + i) * k) cJ).setCells blk (off + (b + i) * k) cI = w2 at S2 ⊢
    go_wp2
    go_roundg (n - (i + 1))
    case measure => omega
    case rel =>
     exact ⟨i + 1, by go_num, by omega, Nat.le_refl _, by rw [swR, HDK]; exact S2⟩
  · obtain rfl : i = n := by omega
    go_wp2
    go_end0
    exact ⟨rfl, S1.out⟩
theorem swR_lists (P M S X Y : List Ev) (n : Nat) (hX : X.length = n) (hY : Y.length = n) : ∀ i, i ≤ n →
 swR (P ++ (X ++ (M ++ (Y ++ S)))).toArray P.length (P.length + n + M.length) i = (P ++ ((Y.take i ++ X.drop i) ++ (M ++ ((X.take i ++ Y.drop i) ++ S)))).toArray
 | 0, _ => by simp [swR]
 | i + 1, h => by
  rw [swR, swR_lists P M S X Y n hX hY i (by omega), swr_step P M S X Y n i hX hY (by omega)]
theorem swR_all (P M S X Y : List Ev) (n : Nat) (hX : X.length = n) (hY : Y.length = n) :
 swR (P ++ (X ++ (M ++ (Y ++ S)))).toArray P.length (P.length + n + M.length) n = (P ++ (Y ++ (M ++ (X ++ S)))).toArray := by
 rw [swR_lists P M S X Y n hX hY n (Nat.le_refl _), List.take_of_length_le (by omega), List.take_of_length_le (by omega), List.drop_of_length_le (by omega), List.drop_of_length_le (by omega), List.append_nil, List.append_nil]
end Go.Proofs.YtjlliohjeiclaaaGreatDoor
namespace Go.Proofs.YtjlliohjeiclaaaGreatDoor
open Go.Shelf Go.RowKit Go.Lib Go.Sort Go.Proofs St Pm Kn
variable {P : Program}
theorem sw_swapRangeL {k : Nat} (L : StL P k) (enc : Ev → List Value) (g : Nat) (cb : Array Value) (blk off cap : Nat) (Q M S X Y : List Ev) (n N : Nat) (A B C : Int) (d0 : Array Ev) (w0 w : World)
 (R : RowK enc k w0 blk off d0) (hs : d0.size = N) (hN : (Q ++ (X ++ (M ++ (Y ++ S)))).length = N) (H : SWK enc k w0 blk off (Q ++ (X ++ (M ++ (Y ++ S)))).toArray w) (hX : X.length = n) (hY : Y.length = n) (hsz : N < 4611686018427387904)
 (hA : A = (Q.length : Int)) (hB : B = (Q.length : Int) + n + M.length) (hC : C = (n : Int)) :
 Calls P 205 #[.slice (some ⟨blk, off, none⟩) N cap, .int .i64 A, .int .i64 B, .int .i64 C, .func (.func g) #[] cb] w fun e w' => e = .returned (.tuple #[]) ∧ SWK enc k w0 blk off (Q ++ (Y ++ (M ++ (X ++ S)))).toArray w' := by
 have hsN : (Q ++ (X ++ (M ++ (Y ++ S)))).toArray.size = N := by simpa using hN
 have hl : Q.length + (n + (M.length + (n + S.length))) = N := by
  rw [← hN]; simp [hX, hY]
 have h := sw_swapRange L enc g cb blk off cap Q.length (Q.length + n + M.length) n d0 (Q ++ (X ++ (M ++ (Y ++ S)))).toArray w0 w R (by rw [hsN]; exact hs) H (by rw [hsN]; omega) (by rw [hsN]; omega) (by rw [hsN]; exact hsz)
 rw [swR_all Q M S X Y n hX hY, hsN] at h
 have e2 : ((Q.length + n + M.length : Nat) : Int) = B := by rw [hB]; omega
 rw [e2, ← hA, ← hC] at h
 exact h
set_option maxHeartbeats 4000000 in
set_option maxRecDepth 1000000 in
theorem sw_rotate {k : Nat} (L : StL P k) (enc : Ev → List Value) (g : Nat) (cb : Array Value) (blk off cap : Nat) (Q X Y S : List Ev) (a m b N : Nat) (d0 : Array Ev) (w0 w : World)
 (R : RowK enc k w0 blk off d0) (hs : d0.size = N) (hN : (Q ++ (X ++ (Y ++ S))).length = N) (H : SWK enc k w0 blk off (Q ++ (X ++ (Y ++ S))).toArray w) (hX : 0 < X.length) (hY : 0 < Y.length) (hsz : N < 4611686018427387904)
 (ea : Q.length = a) (em : a + X.length = m) (eb : m + Y.length = b) :
 Calls P 179 #[.slice (some ⟨blk, off, none⟩) N cap, .int .i64 a, .int .i64 m, .int .i64 b, .func (.func g) #[] cb] w fun e w' => e = .returned (.tuple #[]) ∧ SWK enc k w0 blk off (Q ++ (Y ++ (X ++ S))).toArray w' := by
 have mixed := L.mixed; have t0 := L.t0; have a0 := L.a0; have z0 := L.z0; have v0 := L.v0; have t3 := L.t3; have a3 := L.a3; have z3 := L.z3; have v3 := L.v3; have t4 := L.t4; have a4 := L.a4; have z4 := L.z4; have v4 := L.v4; have t22 := L.t22; have a22 := L.a22; have z22 := L.z22; have v22 := L.v22; have t25 := L.t25; have a25 := L.a25; have z25 := L.z25; have v25 := L.v25
 obtain ⟨x, hx⟩ : ∃ x, X.length = x := ⟨_, rfl⟩
 obtain ⟨y, hy⟩ : ∃ y, Y.length = y := ⟨_, rfl⟩
 have S0 : Aside (SWK enc k w0 blk off (Q ++ (X ++ (Y ++ S))).toArray w) := H
 have HXL : Hid (X.length = x) := hx
 have HYL : Hid (Y.length = y) := hy
 have HQL : Hid (Q.length = a) := ea
 have hN2 : a + (x + (y + S.length)) = N := by rw [← hN, ← ea, ← hx, ← hy]; simp
 have hle : a + (x + y) ≤ N := by omega
 have HNN : Hid (a + (x + (y + S.length)) = N) := hN2
 have e5 : ∀ args w, (callFunc 205 args).run P w = .ok (.enter 205 args) w := enters_of L.fW (by kernel_rfl) rfl
 have FG := L.fR
 rw [hx] at hX em
 rw [hy] at hY eb
 have exz : (m : Int) - (a : Int) = (x : Int) := by omega
 have eyz : (b : Int) - (m : Int) = (y : Int) := by omega
 clear H hx hy ea hN hN2
 go_enter FG, Tryz.ntmps179
 have rxz : IntKind.i64.wrap ((m : Int) - (a : Int)) = (x : Int) := by rw [IntKind.wrap_i64]; omega
 have ryz : IntKind.i64.wrap ((b : Int) - (m : Int)) = (y : Int) := by rw [IntKind.wrap_i64]; omega
 go_wp2
 go_loopg [10, 11] (x + y) (fun kx s10 s11 wr => ∃ (U X' Y' V : List Ev) (i j : Nat), s10 = .int .i64 (i : Int) ∧ s11 = .int .i64 (j : Int) ∧ 0 < i ∧ 0 < j ∧ i + j ≤ kx ∧ i ≤ x ∧ j ≤ y ∧
  Hid (X'.length = i) ∧ Hid (Y'.length = j) ∧ Hid (U.length + i = x) ∧ Hid (V.length + j = y) ∧ Aside (SWK enc k w0 blk off (Q ++ (U ++ (X' ++ (Y' ++ (V ++ S))))).toArray wr) ∧ Hid (U ++ (Y' ++ (X' ++ V)) = Y ++ X))
 case atStart => exact ⟨[], X, Y, [], x, y, by first | rfl | rw [exz], by first | rfl | rw [eyz], hX, hY, Nat.le_refl _, Nat.le_refl _, Nat.le_refl _, HXL, HYL, Lib.hid (by simp), Lib.hid (by simp), by simpa using S0, Lib.hid (by simp)⟩
 case round =>
  clear S0
  obtain ⟨U, X', Y', V, i, j, rfl, rfl, hi, hj, hkx, hix, hjy, LX, LY, LU, LV, S1, HE⟩ := hrel
  have r1 : IntKind.i64.wrap ((m : Int) - (i : Int)) = (m : Int) - (i : Int) := by rw [IntKind.wrap_i64]; omega
  have r2 : IntKind.i64.wrap ((m : Int) + (j : Int)) = (m : Int) + (j : Int) := by rw [IntKind.wrap_i64]; omega
  have r3 : IntKind.i64.wrap ((m : Int) + (j : Int) - (i : Int)) = (m : Int) + (j : Int) - (i : Int) := by rw [IntKind.wrap_i64]; omega
  rcases Nat.lt_trichotomy i j with hij | hij | hij
  · have n1 : ¬ (i : Int) = (j : Int) := by omega
    have n2 : ¬ (j : Int) < (i : Int) := by omega
    have r4 : IntKind.i64.wrap ((j : Int) - (i : Int)) = (j : Int) - (i : Int) := by rw [IntKind.wrap_i64]; omega
    obtain ⟨Y1, Y2, rfl, l1, l2⟩ : ∃ Y1 Y2, Y' = Y1 ++ Y2 ∧ Y1.length = j - i ∧ Y2.length = i := ⟨Y'.take (j - i), Y'.drop (j - i), (List.take_append_drop _ _).symm, by rw [List.length_take, LY.out]; omega, by rw [List.length_drop, LY.out]; omega⟩
    have CALL : Aside (∀ A B C : Int, A = (m : Int) - i → B = (m : Int) + j - i → C = (i : Int) → Calls P 205 #[.slice (some ⟨blk, off, none⟩) N cap, .int .i64 A, .int .i64 B, .int .i64 C, .func (.func g) #[] cb] wr fun e w' => e = .returned (.tuple #[]) ∧ SWK enc k w0 blk off (Q ++ (U ++ (Y2 ++ (Y1 ++ ((X' ++ V) ++ S))))).toArray w') := fun A B C hA hB hC => by
     have hq := HQL.out
     have hu := LU.out
     have hv := LV.out
     have hx := LX.out
     have hn := HNN.out
     have e1 : Q ++ (U ++ (X' ++ ((Y1 ++ Y2) ++ (V ++ S)))) = (Q ++ U) ++ (X' ++ (Y1 ++ (Y2 ++ (V ++ S)))) := by simp only [List.append_assoc]
     have e2 : (Q ++ U) ++ (Y2 ++ (Y1 ++ (X' ++ (V ++ S)))) = Q ++ (U ++ (Y2 ++ (Y1 ++ ((X' ++ V) ++ S)))) := by simp only [List.append_assoc]
     have S2 := S1
     rw [e1] at S2
     have h := sw_swapRangeL L enc g cb blk off cap (Q ++ U) Y1 (V ++ S) X' Y2 i N A B C d0 w0 wr R hs (by simp only [List.length_append]; omega) S2 hx l2 hsz (by rw [hA, List.length_append]; omega) (by rw [hB, List.length_append]; omega) hC
     rw [e2] at h
     exact h
    clear S1
    go_wp2_with (go_at_fn 205; refine (CALL _ _ _ (by omega) (by omega) (by omega)).mono ?_; rintro e w1 ⟨rfl, S3⟩)
    go_roundg (i + (j - i))
    case measure => omega
    case rel =>
     exact ⟨U, Y2, Y1, X' ++ V, i, j - i, by first | rfl | go_num, by first | go_num | (congr 1; omega), hi, by omega, Nat.le_refl _, hix, by omega, Lib.hid l2, Lib.hid l1, LU, Lib.hid (by have := LV.out; have := LX.out; rw [List.length_append]; omega), S3, Lib.hid (by rw [← HE.out]; simp only [List.append_assoc])⟩
  · subst hij
    have CALL : Aside (∀ A B C : Int, A = (m : Int) - i → B = (m : Int) → C = (i : Int) → Calls P 205 #[.slice (some ⟨blk, off, none⟩) N cap, .int .i64 A, .int .i64 B, .int .i64 C, .func (.func g) #[] cb] wr fun e w' => e = .returned (.tuple #[]) ∧ SWK enc k w0 blk off (Q ++ (Y ++ (X ++ S))).toArray w') := fun A B C hA hB hC => by
     have hq := HQL.out
     have hu := LU.out
     have hv := LV.out
     have hx := LX.out
     have hn := HNN.out
     have e1 : Q ++ (U ++ (X' ++ (Y' ++ (V ++ S)))) = (Q ++ U) ++ (X' ++ ([] ++ (Y' ++ (V ++ S)))) := by simp only [List.append_assoc, List.nil_append]
     have e2 : (Q ++ U) ++ (Y' ++ ([] ++ (X' ++ (V ++ S)))) = Q ++ (Y ++ (X ++ S)) := by
      have h := congrArg (fun l => Q ++ (l ++ S)) HE.out
      simp only [List.append_assoc, List.nil_append] at h ⊢
      exact h
     have S2 := S1
     rw [e1] at S2
     have h := sw_swapRangeL L enc g cb blk off cap (Q ++ U) [] (V ++ S) X' Y' i N A B C d0 w0 wr R hs (by simp only [List.length_append, List.length_nil]; have := LY.out; omega) S2 hx LY.out hsz (by rw [hA, List.length_append]; omega) (by rw [hB, List.length_append, List.length_nil]; omega) hC
     rw [e2] at h
     exact h
    clear S1
    go_wp2_with (go_at_fn 205; refine (CALL _ _ _ (by omega) (by omega) (by omega)).mono ?_; rintro e w1 ⟨rfl, S3⟩)
    go_end0
    exact ⟨rfl, S3⟩
  · have n1 : ¬ (i : Int) = (j : Int) := by omega
    have n2 : (j : Int) < (i : Int) := by omega
    have r4 : IntKind.i64.wrap ((i : Int) - (j : Int)) = (i : Int) - (j : Int) := by rw [IntKind.wrap_i64]; omega
    obtain ⟨X1, X2, rfl, l1, l2⟩ : ∃ X1 X2, X' = X1 ++ X2 ∧ X1.length = j ∧ X2.length = i - j := ⟨X'.take j, X'.drop j, (List.take_append_drop _ _).symm, by rw [List.length_take, LX.out]; omega, by rw [List.length_drop, LX.out]⟩
    have CALL : Aside (∀ A B C : Int, A = (m : Int) - i → B = (m : Int) → C = (j : Int) → Calls P 205 #[.slice (some ⟨blk, off, none⟩) N cap, .int .i64 A, .int .i64 B, .int .i64 C, .func (.func g) #[] cb] wr fun e w' => e = .returned (.tuple #[]) ∧ SWK enc k w0 blk off (Q ++ ((U ++ Y') ++ (X2 ++ (X1 ++ (V ++ S))))).toArray w') := fun A B C hA hB hC => by
     have hq := HQL.out
     have hu := LU.out
     have hv := LV.out
     have hy := LY.out
     have hn := HNN.out
     have e1 : Q ++ (U ++ ((X1 ++ X2) ++ (Y' ++ (V ++ S)))) = (Q ++ U) ++ (X1 ++ (X2 ++ (Y' ++ (V ++ S)))) := by simp only [List.append_assoc]
     have e2 : (Q ++ U) ++ (Y' ++ (X2 ++ (X1 ++ (V ++ S)))) = Q ++ ((U ++ Y') ++ (X2 ++ (X1 ++ (V ++ S)))) := by simp only [List.append_assoc]
     have S2 := S1
     rw [e1] at S2
     have h := sw_swapRangeL L enc g cb blk off cap (Q ++ U) X2 (V ++ S) X1 Y' j N A B C d0 w0 wr R hs (by simp only [List.length_append]; omega) S2 l1 hy hsz (by rw [hA, List.length_append]; omega) (by rw [hB, List.length_append]; omega) hC
     rw [e2] at h
     exact h
    clear S1
    go_wp2_with (go_at_fn 205; refine (CALL _ _ _ (by omega) (by omega) (by omega)).mono ?_; rintro e w1 ⟨rfl, S3⟩)
    go_roundg (i - j + j)
    case measure => omega
    case rel =>
     exact ⟨U ++ Y', X2, X1, V, i - j, j, by first | go_num | (congr 1; omega), by first | rfl | go_num, by omega, hj, Nat.le_refl _, by omega, hjy, Lib.hid l2, Lib.hid l1, Lib.hid (by have := LU.out; have := LY.out; rw [List.length_append]; omega), LV, S3, Lib.hid (by rw [← HE.out]; simp only [List.append_assoc])⟩
end Go.Proofs.YtjlliohjeiclaaaGreatDoor
namespace Go.Proofs.YtjlliohjeiclaaaGreatDoor
open Go.RowKit St Pm Kn
structure SrL (B : List Ev) (x : Ev) (i j : Nat) : Prop where
 le : i ≤ j
 hj : j ≤ B.length
 lo : ∀ y ∈ B.take i, RE y x
 hi : ∀ y ∈ B.drop j, RE x y
theorem SrL.start (B : List Ev) (x : Ev) : SrL B x 0 B.length := ⟨Nat.zero_le _, Nat.le_refl _, fun y hy => by simp at hy, fun y hy => by simp at hy⟩
theorem SrL.up {B : List Ev} {x : Ev} {i j h : Nat} (s : SrL B x i j) (hB : Up B) (h1 : i ≤ h) (h2 : h < j) (hl : h < B.length) (hr : RE B[h] x) : SrL B x (h + 1) j := by
 refine ⟨h2, s.hj, fun y hy => ?_, s.hi⟩
 obtain ⟨k, hk, h3, rfl⟩ := mem_take_get hy
 rcases Nat.lt_or_ge k h with h4 | h4
 · exact re_trans (up_get hB h4 hl) hr
 · have : k = h := by omega
   subst this; exact hr
theorem SrL.down {B : List Ev} {x : Ev} {i j h : Nat} (s : SrL B x i j) (hB : Up B) (h1 : i ≤ h) (h2 : h < j) (hl : h < B.length) (hr : RE x B[h]) : SrL B x i h := by
 refine ⟨h1, by omega, s.lo, fun y hy => ?_⟩
 obtain ⟨k, hk, h3, rfl⟩ := mem_drop_get hy
 rcases Nat.lt_or_ge h k with h4 | h4
 · exact re_trans hr (up_get hB h4 hk)
 · have : k = h := by omega
   subst this; exact hr
theorem SrL.fin {B : List Ev} {x : Ev} {i : Nat} (s : SrL B x i i) (hB : Up B) : B.take i ++ x :: B.drop i = sortV (x :: B) := merge_one hB s.lo s.hi
theorem swp_up (Q B S : List Ev) (x : Ev) (t n m : Nat) (ht : t < B.length) (hn : n = Q.length + t) (hm : m = n + 1) :
 Sort.swp (Q ++ ((B.take t ++ x :: B.drop t) ++ S)).toArray n m = (Q ++ ((B.take (t + 1) ++ x :: B.drop (t + 1)) ++ S)).toArray := by
 subst hm hn
 have h := swp_lists (Q ++ B.take t) [] (B.drop (t + 1) ++ S) x B[t]
 have e1 : (Q ++ B.take t).length = Q.length + t := by simp; omega
 rw [e1] at h
 simp only [List.length_nil, Nat.add_zero] at h
 have e2 : Q ++ ((B.take t ++ x :: B.drop t) ++ S) = (Q ++ B.take t) ++ x :: ([] ++ B[t] :: (B.drop (t + 1) ++ S)) := by
  rw [List.drop_eq_getElem_cons ht]; simp only [List.append_assoc, List.cons_append, List.nil_append]
 have e3 : Q ++ ((B.take (t + 1) ++ x :: B.drop (t + 1)) ++ S) = (Q ++ B.take t) ++ B[t] :: ([] ++ x :: (B.drop (t + 1) ++ S)) := by
  rw [List.take_succ_eq_append_getElem ht]; simp only [List.append_assoc, List.cons_append, List.nil_append]
 rw [e2, e3]
 exact h
theorem swp_comm (d : Array Ev) (i j : Nat) (h : i ≠ j) : Sort.swp d i j = Sort.swp d j i := by
 unfold Sort.swp
 apply Array.ext'
 rw [Array.toList_setIfInBounds, Array.toList_setIfInBounds, Array.toList_setIfInBounds, Array.toList_setIfInBounds]
 exact List.set_comm _ _ h
theorem swp_down (Q A S : List Ev) (y : Ev) (t n m : Nat) (ht : t < A.length) (hm : m = Q.length + t) (hn : n = m + 1) :
 Sort.swp (Q ++ ((A.take (t + 1) ++ y :: A.drop (t + 1)) ++ S)).toArray n m = (Q ++ ((A.take t ++ y :: A.drop t) ++ S)).toArray := by
 subst hn hm
 rw [swp_comm _ _ _ (by omega)]
 have h := swp_lists (Q ++ A.take t) [] (A.drop (t + 1) ++ S) A[t] y
 have e1 : (Q ++ A.take t).length = Q.length + t := by simp; omega
 rw [e1] at h
 simp only [List.length_nil, Nat.add_zero] at h
 have e2 : Q ++ ((A.take t ++ y :: A.drop t) ++ S) = (Q ++ A.take t) ++ y :: ([] ++ A[t] :: (A.drop (t + 1) ++ S)) := by
  rw [List.drop_eq_getElem_cons ht]; simp only [List.append_assoc, List.cons_append, List.nil_append]
 have e3 : Q ++ ((A.take (t + 1) ++ y :: A.drop (t + 1)) ++ S) = (Q ++ A.take t) ++ A[t] :: ([] ++ y :: (A.drop (t + 1) ++ S)) := by
  rw [List.take_succ_eq_append_getElem ht]; simp only [List.append_assoc, List.cons_append, List.nil_append]
 rw [e2, e3]
 exact h
theorem Seek.left {A B : List Ev} {h : Nat} (h1 : A.length ≤ h) (h2 : h ≤ B.length) : Seek A B h 0 A.length := ⟨Nat.zero_le _, Nat.le_refl _, h1, by omega, .inl rfl, .inl rfl⟩
theorem Seek.right {A B : List Ev} {h : Nat} (h1 : h ≤ A.length) (h2 : B.length ≤ h) : Seek A B h (h - B.length) h := ⟨by omega, h1, Nat.le_refl _, by omega, .inr (.inl rfl), .inr (.inl (by omega))⟩
theorem Seek.up {A B : List Ev} {h s r c : Nat} (k : Seek A B h s r) (h1 : s ≤ c) (h2 : c < r) (ha : c < A.length) (hb : h - 1 - c < B.length) (hn : ¬ RE B[h - 1 - c] A[c]) : Seek A B h (c + 1) r := by
 have := k.hrh
 have := k.lo
 refine ⟨h2, k.hr, k.hrh, by omega, k.hi, .inr (.inr ⟨ha, by omega, by omega, by omega, ?_⟩)⟩
 have e1 : h - (c + 1) = h - 1 - c := by omega
 simp only [Nat.add_sub_cancel, e1]
 exact hn
theorem Seek.down {A B : List Ev} {h s r c : Nat} (k : Seek A B h s r) (h1 : s ≤ c) (h2 : c < r) (ha : c < A.length) (hb : h - 1 - c < B.length) (hn : RE B[h - 1 - c] A[c]) : Seek A B h s c := by
 have := k.hrh
 have := k.hr
 exact ⟨h1, by omega, by omega, k.lo, .inr (.inr ⟨ha, hb, by omega, hn⟩), k.below⟩
structure MrA (Q A B S : List Ev) (a m b N : Nat) : Prop where
 hN : (Q ++ (A ++ (B ++ S))).length = N
 hA : 0 < A.length
 hB : 0 < B.length
 uA : Up A
 uB : Up B
 nd : (A ++ B).Nodup
 cm : ∀ x ∈ A, ∀ y ∈ B, evC y x < 0 ↔ RE y x
 ea : Q.length = a
 em : a + A.length = m
 eb : m + B.length = b
theorem MrA.ne {Q A B S : List Ev} {a m b N : Nat} (M : MrA Q A B S a m b N) : ∀ x ∈ A, ∀ y ∈ B, x ≠ y := fun x hx y hy => (List.nodup_append.1 M.nd).2.2 x hx y hy
theorem MrA.half {Q A B S : List Ev} {a m b N s h : Nat} (M : MrA Q A B S a m b N) : (A.take s ++ B.take (h - s)).Nodup ∧ (A.drop s ++ B.drop (h - s)).Nodup ∧ Up (A.take s) ∧ Up (A.drop s) ∧ Up (B.take (h - s)) ∧ Up (B.drop (h - s)) := by
 have n := List.nodup_append.1 M.nd
 refine ⟨List.nodup_append.2 ⟨n.1.sublist (List.take_sublist _ _), n.2.1.sublist (List.take_sublist _ _), fun x hx y hy => n.2.2 x (List.mem_of_mem_take hx) y (List.mem_of_mem_take hy)⟩,
  List.nodup_append.2 ⟨n.1.sublist (List.drop_sublist _ _), n.2.1.sublist (List.drop_sublist _ _), fun x hx y hy => n.2.2 x (List.mem_of_mem_drop hx) y (List.mem_of_mem_drop hy)⟩,
  M.uA.sublist (List.take_sublist _ _), M.uA.sublist (List.drop_sublist _ _), M.uB.sublist (List.take_sublist _ _), M.uB.sublist (List.drop_sublist _ _)⟩
theorem MrA.left {Q A B S : List Ev} {a m b N s h U mid : Nat} (M : MrA Q A B S a m b N) (h0 : 0 < s) (h1 : s ≤ A.length) (h2 : s < h) (h3 : h - s ≤ B.length) (hU : U = a + s) (hm : mid = a + h) :
 MrA Q (A.take s) (B.take (h - s)) ((A.drop s ++ B.drop (h - s)) ++ S) a U mid N := by
 have k := M.half (s := s) (h := h)
 have hN := M.hN
 simp only [List.length_append] at hN
 refine ⟨?_, by rw [List.length_take]; omega, by rw [List.length_take]; omega, k.2.2.1, k.2.2.2.2.1, k.1, fun x hx y hy => M.cm x (List.mem_of_mem_take hx) y (List.mem_of_mem_take hy), M.ea, by rw [List.length_take]; omega, by rw [List.length_take]; omega⟩
 simp only [List.length_append, List.length_take, List.length_drop]
 omega
theorem MrA.right {Q A B S : List Ev} {a m b N s h mid en : Nat} (M : MrA Q A B S a m b N) (h1 : s < A.length) (h2 : s ≤ h) (h3 : h - s < B.length) (hm : mid = a + h) (he : en + s = mid + A.length) :
 MrA (Q ++ sortV (A.take s ++ B.take (h - s))) (A.drop s) (B.drop (h - s)) S mid en b N := by
 have k := M.half (s := s) (h := h)
 have hN := M.hN
 have ea := M.ea
 have em := M.em
 have eb := M.eb
 simp only [List.length_append] at hN
 refine ⟨?_, by rw [List.length_drop]; omega, by rw [List.length_drop]; omega, k.2.2.2.1, k.2.2.2.2.2, k.2.1, fun x hx y hy => M.cm x (List.mem_of_mem_drop hx) y (List.mem_of_mem_drop hy), ?_, by rw [List.length_drop]; omega, by rw [List.length_drop]; omega⟩
 · simp only [List.length_append, List.length_take, List.length_drop, sortV_length]
   omega
 · simp only [List.length_append, List.length_take, sortV_length]
   omega
theorem MrA.whole {Q A B S : List Ev} {a m b N s h : Nat} (M : MrA Q A B S a m b N) (k : Seek A B h s s) :
 sortV (A.take s ++ B.take (h - s)) ++ sortV (A.drop s ++ B.drop (h - s)) = sortV (A ++ B) := by
 obtain ⟨c1, c2⟩ := k.cut M.uA M.uB M.ne
 have e1 : A.take s ++ A.drop s = A := List.take_append_drop _ _
 have e2 : B.take (h - s) ++ B.drop (h - s) = B := List.take_append_drop _ _
 have h := merge_halves (A1 := A.take s) (A2 := A.drop s) (B1 := B.take (h - s)) (B2 := B.drop (h - s)) (by rw [e1]; exact M.uA) (by rw [e2]; exact M.uB) (by rw [e1, e2]; exact M.nd) c1 c2
 rw [e1, e2] at h
 exact h
theorem MrA.turned {Q A B S : List Ev} {s h : Nat} (h0 : A.length ≤ s ∨ h ≤ s) : Q ++ (A ++ (B ++ S)) = Q ++ ((A.take s ++ B.take (h - s)) ++ ((A.drop s ++ B.drop (h - s)) ++ S)) := by
 rcases h0 with h0 | h0
 · rw [List.take_of_length_le h0, List.drop_of_length_le h0]
   have e2 : B.take (h - s) ++ (B.drop (h - s) ++ S) = B ++ S := by rw [← List.append_assoc, List.take_append_drop]
   simp only [List.append_assoc, List.nil_append, e2]
 · have : h - s = 0 := by omega
   rw [this, List.take_zero, List.drop_zero]
   have e2 : A.take s ++ (A.drop s ++ (B ++ S)) = A ++ (B ++ S) := by rw [← List.append_assoc, List.take_append_drop]
   simp only [List.append_assoc, List.nil_append, e2]
theorem MrA.noLeft {Q A B S : List Ev} {a m b N s h : Nat} (M : MrA Q A B S a m b N) (h0 : s = 0 ∨ h ≤ s) : sortV (A.take s ++ B.take (h - s)) = A.take s ++ B.take (h - s) := by
 have k := M.half (s := s) (h := h)
 refine sortV_done ?_
 rcases h0 with h0 | h0
 · subst h0
   rw [List.take_zero, List.nil_append]
   exact k.2.2.2.2.1
 · have : h - s = 0 := by omega
   rw [this, List.take_zero, List.append_nil]
   exact k.2.2.1
theorem MrA.noRight {Q A B S : List Ev} {a m b N s h : Nat} (M : MrA Q A B S a m b N) (h0 : A.length ≤ s ∨ B.length ≤ h - s) : sortV (A.drop s ++ B.drop (h - s)) = A.drop s ++ B.drop (h - s) := by
 have k := M.half (s := s) (h := h)
 refine sortV_done ?_
 rcases h0 with h0 | h0
 · rw [List.drop_of_length_le h0, List.nil_append]
   exact k.2.2.2.2.2
 · rw [List.drop_of_length_le h0, List.append_nil]
   exact k.2.2.2.1
structure Cut4 (Q A B S A1 A2 B1 B2 : List Ev) (a m b N U md en : Nat) : Prop where
 eA : A1 ++ A2 = A
 eB : B1 ++ B2 = B
 l1 : A1.length = U - a
 l2 : A2.length = m - U
 l3 : B1.length = md - U
 l4 : B2.length = b - en
 left : a < U → U < md → MrA Q A1 B1 ((A2 ++ B2) ++ S) a U md N
 right : U < m → en < b → MrA (Q ++ sortV (A1 ++ B1)) A2 B2 S md en b N
 whole : sortV (A1 ++ B1) ++ sortV (A2 ++ B2) = sortV (A ++ B)
 turned : m ≤ U ∨ md ≤ U → Q ++ (A ++ (B ++ S)) = Q ++ ((A1 ++ B1) ++ ((A2 ++ B2) ++ S))
 noLeft : U ≤ a ∨ md ≤ U → sortV (A1 ++ B1) = A1 ++ B1
 noRight : m ≤ U ∨ b ≤ en → sortV (A2 ++ B2) = A2 ++ B2
theorem MrA.cut4 {Q A B S : List Ev} {a m b N U md en : Nat} (M : MrA Q A B S a m b N) (k : Seek A B (md - a) (U - a) (U - a)) (h1 : a ≤ U) (h2 : U ≤ m) (h3 : U ≤ md) (h4 : md + m ≤ U + b) (h5 : en + U = md + m) :
 ∃ A1 A2 B1 B2, Cut4 Q A B S A1 A2 B1 B2 a m b N U md en := by
 have em := M.em
 have eb := M.eb
 refine ⟨A.take (U - a), A.drop (U - a), B.take (md - a - (U - a)), B.drop (md - a - (U - a)), List.take_append_drop _ _, List.take_append_drop _ _, by rw [List.length_take]; omega, by rw [List.length_drop]; omega, by rw [List.length_take]; omega, by rw [List.length_drop]; omega,
  fun h6 h7 => M.left (by omega) (by omega) (by omega) (by omega) (by omega) (by omega), fun h6 h7 => M.right (by omega) (by omega) (by omega) (by omega) (by omega), M.whole k, fun h => MrA.turned (by omega), fun h => M.noLeft (by omega), fun h => M.noRight (by omega)⟩
end Go.Proofs.YtjlliohjeiclaaaGreatDoor
